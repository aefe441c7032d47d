/-
  What the proof leans on, part 2: of the texts Code, Run, RunOps.
-/
import Derived.Test.YthmdialagibpfaaGreatDoorPkA
import Derived.Test.YthmdialagibpfaaGreatDoorProg
set_option linter.unusedVariables false
set_option linter.unusedSimpArgs false
set_option linter.unusedSectionVars false
section
namespace Go.Sh
open Go Go.Tum
abbrev t (n:Nat):Operand:=.tmp n
abbrev i (n:Int):Operand:=.const (.int .i64 n)
abbrev m (d s:Nat):Step:=.q 0 (some d) none (.mov (.tmp s)) false
abbrev q (d:Nat) (op:QOp):Step:=.q 0 (some d) none op false
abbrev l (d s:Nat):Step:=.q 0 (some d) none (.ld (.tmp s)) true
abbrev k (j d:Nat) (op:QOp):Step:=.q j (some d) none op false
abbrev r (j d:Nat) (op:QOp):Step:=.q j (some d) none op true
abbrev g (j d c:Nat) (op:QOp):Step:=.q j (some d) (some (c,true)) op false
abbrev h (j d c:Nat) (op:QOp):Step:=.q j (some d) (some (c,true)) op true
abbrev n (j d c:Nat) (op:QOp):Step:=.q j (some d) (some (c,false)) op false
abbrev p (j d c:Nat) (op:QOp):Step:=.q j (some d) (some (c,false)) op true
abbrev e (d:Nat) (op:EOp) (pd:List Nat):Step:=.e (some d) none op pd
abbrev w (op:EOp) (pd:List Nat):Step:=.e none none op pd
abbrev o (x:Op) (ty:TypeId):Oper:=⟨none,x,ty, "",[].toArray,none⟩
abbrev s (a b:MC):MC:=.seq a b
abbrev x (l:List Step) (b:MC):MC:=.seq (.reg l) b
end Go.Sh
namespace Go.Proofs.YthmdialagibpfaaGreatDoor
open Go Go.Tum Go.Sh
abbrev EOk (k nt:Nat) (m:MC) (f:Func):Prop:=∀ {args:List Value} {w:World} {R:Value→World→Prop},Nat.ble args.length nt=true→MWp Tryz.prog m (RQ Tryz.prog f R) (initEnv 0 args) w→Does Tryz.prog k args.toArray w R
def m_tumbrellaw22_CyclePlays:MC:=(x [q 6 (.mov (.const (.bool false)))] (x [m 15 0,q 16 (.cvi .i64 (t 15)),q 17 (.bin .rem (t 16) (i 4)),q 18 (.bin .add (i 1) (t 17)),e 19 (.call 5 [i 1,t 18]) [],m 7 19] (s (x [m 20 7,q 21 (.nilp false (t 20))] (.cond (t 21) (x [q 6 (.mov (.const (.bool false)))] .ret) .skip)) (x [m 22 1,q 23 (.cvi .i64 (t 22)),q 24 (.bin .rem (t 23) (i 4)),m 8 24] (x [m 25 7,k 1 26 (.nilc (t 25)),k 2 27 (.fld (t 26) 0),r 3 28 (.ld (t 27)),k 4 29 (.mov (t 8)),k 6 31 (.mov (t 7)),k 7 32 (.nilc (t 31)),k 8 33 (.fld (t 32) 1),r 9 34 (.ld (t 33)),k 10 35 (.mov (t 8)),e 30 (.call 6 [t 28,t 29]) [9],e 36 (.call 7 [t 34,t 35]) [],k 12 9 (.mov (t 30)),k 13 10 (.mov (t 36))] (s (x [m 37 2,q 38 (.len (t 37)),q 39 (.mov (i 0))] (.block 0 (.loop (x [q 40 (.bin .lss (t 39) (t 38))] (s (.cond (t 40) .skip (.exit 0)) (s (.block 1 (x [m 41 39,q 42 (.idx (t 37) (t 39) 13),r 0 43 (.ldn (t 42) 13),e 12 (.new 40 [.int .i64 0,.int .i64 0,.int .i64 0,.int .i64 0,.int .i64 0,.int .i64 0,.int .i64 0,.int .u64 0,.int .i64 0,.int .i64 0,.int .i64 0,.int .i64 0,.slice none 0 0]) [],m 11 41,w (.stn (t 12) (t 43) 13) []] (s (x [m 44 11,q 45 (.bin .geq (t 44) (i 60))] (.cond (t 45) (.exit 0) .skip)) (s (x [q 46 (.fld (t 12) 10),l 47 46] (.block 2 (x [q 54 (.bin .eql (t 47) (i 1)),m 53 54] (.cond (t 53) (s (x [m 55 9,e 56 (.call 8 [t 55]) [],q 57 (.bin .neq (t 56) (i 0))] (.cond (t 57) (x [q 6 (.mov (.const (.bool false)))] .ret) .skip)) (.reg [m 58 10,e 59 (.call 9 [t 58]) []])) (x [q 61 (.bin .eql (t 47) (i 2)),m 60 61] (.cond (t 60) (x [m 62 7,q 63 (.fld (t 12) 12),l 64 63,e 65 (.call 10 [t 62,t 64]) [],m 13 65] (x [m 66 9,k 1 67 (.fld (t 12) 11),r 2 68 (.ld (t 67)),k 3 69 (.mov (t 13)),k 5 71 (.mov (t 10)),k 6 72 (.fld (t 12) 11),r 7 73 (.ld (t 72)),k 8 74 (.mov (t 13)),e 70 (.call 11 [t 66,t 68,t 69]) [7],e 75 (.call 12 [t 71,t 73,t 74]) [],k 10 76 (.bin .neq (t 70) (t 75))] (.cond (t 76) (x [q 6 (.mov (.const (.bool false)))] .ret) .skip))) (s (x [q 78 (.bin .eql (t 47) (i 3)),m 77 78] (.cond (t 77) .skip (.reg [q 79 (.bin .eql (t 47) (i 4)),m 77 79]))) (.cond (t 77) (x [m 80 9,e 81 (.call 13 [t 80]) [],m 82 10,e 83 (.call 14 [t 82]) [],r 0 84 (.raw (o (.binOp .neq 4 (t 81) (t 83) 4) 4))] (.cond (t 84) (x [q 6 (.mov (.const (.bool false)))] .ret) .skip)) (x [m 48 7,q 49 (.fld (t 12) 0),r 0 50 (.ldn (t 49) 10),e 51 (.call 15 [t 48,t 50,.const (.bool true)]) [],q 52 (.un .not (t 51))] (.cond (t 52) (x [q 6 (.mov (.const (.bool false)))] .ret) .skip)))))))))) (s (x [m 85 9,k 2 87 (.mov (t 10)),k 3 88 (.nilc (t 87)),k 4 89 (.fld (t 88) 3),r 5 90 (.ld (t 89)),e 86 (.call 16 [t 85]) [5],k 6 91 (.bin .neq (t 86) (t 90)),k 7 92 (.mov (t 91)),n 8 93 92 (.mov (t 9)),n 10 95 92 (.mov (t 10)),n 11 96 92 (.nilc (t 95)),n 12 97 92 (.fld (t 96) 7),p 13 98 92 (.ld (t 97)),.e (some 94) (some (92,false)) (.call 17 [t 93]) [13,5],n 14 99 92 (.bin .neq (t 94) (t 98)),k 15 100 (.pick (t 92) (.const (.bool true)) (t 99)),k 16 101 (.mov (t 100)),n 17 102 101 (.mov (t 9)),n 19 104 101 (.mov (t 10)),n 20 105 101 (.nilc (t 104)),n 21 106 101 (.fld (t 105) 8),p 22 107 101 (.ld (t 106)),.e (some 103) (some (101,false)) (.call 18 [t 102]) [22,13,5],n 23 108 101 (.bin .neq (t 103) (t 107)),k 24 109 (.pick (t 101) (.const (.bool true)) (t 108)),k 25 110 (.mov (t 109)),n 26 111 110 (.mov (t 9)),n 28 113 110 (.mov (t 10)),.e (some 112) (some (110,false)) (.call 19 [t 111]) [22,13,5],.e (some 114) (some (110,false)) (.call 20 [t 113]) [22,13,5],p 30 115 110 (.raw (o (.binOp .neq 4 (t 112) (t 114) 4) 4)),k 31 116 (.pick (t 110) (.const (.bool true)) (t 115))] (.cond (t 116) (x [q 6 (.mov (.const (.bool false)))] .ret) .skip)) (x [q 14 (.mov (i (-1)))] (.block 3 (.loop (s (x [m 117 14,m 118 8,q 119 (.bin .leq (t 117) (t 118))] (.cond (t 119) .skip (.exit 3))) (s (.block 4 (x [m 122 9,m 123 14,e 124 (.call 21 [t 122,t 123]) [],m 125 14,q 126 (.bin .geq (t 125) (i 0)),m 127 126,g 0 128 127 (.mov (t 14)),g 0 129 127 (.mov (t 8)),g 0 130 127 (.bin .lss (t 128) (t 129)),q 131 (.pick (t 127) (t 130) (.const (.bool false))),m 132 131,g 0 133 132 (.mov (t 10)),g 0 134 132 (.nilc (t 133)),g 0 135 132 (.fld (t 134) 1),h 0 136 132 (.ld (t 135)),g 0 137 132 (.mov (t 14)),g 0 138 132 (.idx (t 136) (t 137) 1),h 0 139 132 (.ld (t 138)),q 140 (.pick (t 132) (t 139) (.const (.bool false))),r 0 141 (.raw (o (.binOp .neq 4 (t 124) (t 140) 4) 4))] (.cond (t 141) (x [q 6 (.mov (.const (.bool false)))] .ret) .skip))) (.reg [m 120 14,q 121 (.bin .add (t 120) (i 1)),m 14 121]))))))))))) (.reg [q 142 (.bin .add (t 39) (i 1)),m 39 142]))))))) (x [m 143 7,e 144 (.call 22 [t 143]) [],m 145 144,.e (some 146) (some (145,true)) (.call 23 []) [],q 147 (.pick (t 145) (t 146) (.const (.bool false))),m 6 147] .ret)))))))
theorem e_tumbrellaw22_CyclePlays:EOk 3 148 m_tumbrellaw22_CyclePlays Tryz.f3:=fun hn h =>
 enter Tryz.func3 (c:=(Tryz.f3.body.getD .skip)) rfl (by kernel_rfl) (Nat.le_of_ble_eq_true hn) h
def m_tumbrellaw18_Make:MC:=(x [q 4 (.mov (.const (.pointer none)))] (x [m 8 0,m 9 1,q 10 (.bld [.int .i64 0,.int .i64 0,.int .u64 0] [(0,(1,(t 8))),(1,(1,(t 9))),(2,(1,(.const (.int .u64 1))))]),e 11 (.call 33 [t 10]) [],m 7 11,q 12 (.ext (t 7) 0),q 13 (.ext (t 7) 1),m 5 12,m 6 13] (s (x [m 14 6,q 15 (.bin .neq (t 14) (i 0)),m 16 15,n 0 17 16 (.mov (t 5)),n 0 18 16 (.nilp false (t 17)),q 19 (.pick (t 16) (.const (.bool true)) (t 18))] (.cond (t 19) (x [q 4 (.mov (.const (.pointer none)))] .ret) .skip)) (x [m 20 5,e 21 (.call 34 [t 20]) [],m 22 0,m 23 1,e 24 (.call 35 [t 22,t 23,.const (.int .u64 1)]) [],q 25 (.bld [.pointer none,.slice none 0 0] [(0,(1,(t 24)))]),e 26 (.box 63 (t 25)) [],q 27 (.bld [.pointer none,.pointer none] [(0,(1,(t 21))),(1,(1,(t 26)))]),e 28 (.box 30 (t 27)) [],m 4 28] .ret))))
theorem e_tumbrellaw18_Make:EOk 5 29 m_tumbrellaw18_Make Tryz.f5:=fun hn h =>
 enter Tryz.func5 (c:=(Tryz.f5.body.getD .skip)) rfl (by kernel_rfl) (Nat.le_of_ble_eq_true hn) h
def m_cycle_New:MC:=(x [q 4 (.mov (.const (.pointer none)))] (s (x [m 5 0,q 6 (.nilp false (t 5))] (.cond (t 6) (x [q 4 (.mov (.const (.pointer none)))] .ret) .skip)) (x [m 7 0,m 8 1,q 9 (.mm true (t 8) (i 0)),q 10 (.mm false (t 9) (i 64)),e 11 (.raw (o (.makeSlice 80 (t 10) (t 10)) 80)) [],q 12 (.bld [.pointer none,.slice none 0 0,.int .i64 0,.int .i64 0,.pointer none,.pointer none,.int .i64 0,.int .i64 0] [(0,(1,(t 7))),(1,(1,(t 11)))]),e 13 (.box 84 (t 12)) [],m 4 13] .ret)))
theorem e_cycle_New:EOk 6 14 m_cycle_New Tryz.f6:=fun hn h =>
 enter Tryz.func6 (c:=(Tryz.f6.body.getD .skip)) rfl (by kernel_rfl) (Nat.le_of_ble_eq_true hn) h
def m_tumbrelref22_New:MC:=(x [q 4 (.mov (.const (.pointer none)))] (s (x [m 5 1,q 6 (.bin .lss (t 5) (i 0))] (.cond (t 6) (.reg [q 1 (.mov (i 0))]) .skip)) (s (x [m 7 1,q 8 (.bin .gtr (t 7) (i 64))] (.cond (t 8) (.reg [q 1 (.mov (i 64))]) .skip)) (s (.regT (.q 0 (some 9) none (.mov (t 0)) false (.q 1 (some 10) none (.mov (t 1)) false (.q 3 (some 12) none (.mov (t 1)) false (.alt (.e (some 11) none (.raw (o (.makeSlice 48 (t 10) (t 10)) 48)) [] (.e (some 13) none (.raw (o (.makeSlice 49 (t 12) (t 12)) 49)) [] (.q 5 (some 14) none (.bld [.pointer none,.slice none 0 0,.slice none 0 0,.int .i64 0,.int .i64 0,.pointer none,.pointer none,.int .i64 0,.int .i64 0] [(0,(1,(t 9))),(1,(1,(t 11))),(2,(1,(t 13)))]) false (.e (some 15) none (.box 53 (t 14)) [] (.q 7 (some 4) none (.mov (t 15)) false .done))))) (.e (some 13) none (.raw (o (.makeSlice 49 (t 12) (t 12)) 49)) [] (.e (some 11) none (.raw (o (.makeSlice 48 (t 10) (t 10)) 48)) [] (.q 5 (some 14) none (.bld [.pointer none,.slice none 0 0,.slice none 0 0,.int .i64 0,.int .i64 0,.pointer none,.pointer none,.int .i64 0,.int .i64 0] [(0,(1,(t 9))),(1,(1,(t 11))),(2,(1,(t 13)))]) false (.e (some 15) none (.box 53 (t 14)) [] (.q 7 (some 4) none (.mov (t 15)) false .done)))))))))) .ret))))
theorem e_tumbrelref22_New:EOk 7 16 m_tumbrelref22_New Tryz.f7:=fun hn h =>
 enter Tryz.func7 (c:=(Tryz.f7.body.getD .skip)) rfl (by kernel_rfl) (Nat.le_of_ble_eq_true hn) h
def m_cycle_Cycle_Request:MC:=(x [q 2 (.mov (i 0))] (s (x [m 3 0,q 4 (.nilp false (t 3))] (.cond (t 4) (x [q 2 (.mov (i 2))] .ret) .skip)) (s (x [m 5 0,q 6 (.nilc (t 5)),q 7 (.fld (t 6) 2),l 8 7,q 9 (.bin .eql (t 8) (i 0))] (.cond (t 9) (.reg [m 10 0,q 11 (.nilc (t 10)),q 12 (.fld (t 11) 2),w (.st (t 12) (i 1)) []]) .skip)) (x [q 2 (.mov (i 0))] .ret))))
theorem e_cycle_Cycle_Request:EOk 8 13 m_cycle_Cycle_Request Tryz.f8:=fun hn h =>
 enter Tryz.func8 (c:=(Tryz.f8.body.getD .skip)) rfl (by kernel_rfl) (Nat.le_of_ble_eq_true hn) h
def m_tumbrelref22_Cycle_Request:MC:=(x [m 2 0,q 3 (.nilc (t 2)),q 4 (.fld (t 3) 3),l 5 4,q 6 (.bin .eql (t 5) (i 0))] (.cond (t 6) (.reg [m 7 0,q 8 (.nilc (t 7)),q 9 (.fld (t 8) 3),w (.st (t 9) (i 1)) []]) .skip))
theorem e_tumbrelref22_Cycle_Request:EOk 9 10 m_tumbrelref22_Cycle_Request Tryz.f9:=fun hn h =>
 enter Tryz.func9 (c:=(Tryz.f9.body.getD .skip)) rfl (by kernel_rfl) (Nat.le_of_ble_eq_true hn) h
def m_tumbrellaw22_roots:MC:=(x [q 4 (.mov (.const (.slice none 0 0)))] (x [q 5 (.mov (.const (.slice none 0 0)))] (s (x [m 8 1,q 9 (.len (t 8)),q 10 (.mov (i 0))] (.block 0 (.loop (x [q 11 (.bin .lss (t 10) (t 9))] (s (.cond (t 11) .skip (.exit 0)) (s (.block 1 (x [m 12 10,q 13 (.idx (t 8) (t 10) 1),l 14 13,m 6 12,m 7 14] (s (x [m 15 6,q 16 (.bin .geq (t 15) (i 6))] (.cond (t 16) (.exit 0) .skip)) (s (x [m 17 7,q 18 (.bin .geq (t 17) (i 0)),m 19 18,g 0 20 19 (.mov (t 7)),g 0 21 19 (.mov (t 0)),g 0 22 19 (.nilc (t 21)),g 0 23 19 (.fld (t 22) 1),h 0 24 19 (.ld (t 23)),g 0 25 19 (.nilc (t 24)),g 0 26 19 (.fld (t 25) 1),h 0 27 19 (.ld (t 26)),g 0 28 19 (.len (t 27)),g 0 29 19 (.bin .lss (t 20) (t 28)),q 30 (.pick (t 19) (t 29) (.const (.bool false)))] (.cond (t 30) (.reg [m 31 0,q 32 (.nilc (t 31)),q 33 (.fld (t 32) 1),l 34 33,q 35 (.nilc (t 34)),q 36 (.fld (t 35) 1),l 37 36,m 38 7,q 39 (.idx (t 37) (t 38) 2),q 40 (.fld (t 39) 0),l 41 40,m 7 41]) .skip)) (.reg [m 42 5,m 43 7,e 44 (.bs1 3 1 (t 43)) [],e 45 (.raw (o (.call ⟨(.builtin .append),[t 42,t 44].toArray,[38,38].toArray⟩) 38)) [],m 5 45]))))) (.reg [q 46 (.bin .add (t 10) (i 1)),m 10 46]))))))) (x [m 47 5,m 4 47] .ret))))
theorem e_tumbrellaw22_roots:EOk 10 48 m_tumbrellaw22_roots Tryz.f10:=fun hn h =>
 enter Tryz.func10 (c:=(Tryz.f10.body.getD .skip)) rfl (by kernel_rfl) (Nat.le_of_ble_eq_true hn) h
def m_cycle_Cycle_Stop:MC:=(x [q 6 (.mov (i 0))] (s (.block 0 (x [m 8 0,q 9 (.nilp false (t 8)),m 7 9] (.cond (t 7) (x [q 6 (.mov (i 2))] .ret) (x [m 11 0,m 12 1,e 13 (.call 36 [t 11,t 12]) [],q 14 (.un .not (t 13)),m 10 14] (.cond (t 10) (x [q 6 (.mov (i 1))] .ret) (x [m 16 0,q 17 (.nilc (t 16)),q 18 (.fld (t 17) 2),l 19 18,q 20 (.bin .neq (t 19) (i 1)),m 15 20] (.cond (t 15) (x [q 6 (.mov (i 8))] .ret) (x [m 22 0,q 23 (.nilc (t 22)),q 24 (.fld (t 23) 1),l 25 24,m 26 1,q 27 (.idx (t 25) (t 26) 2),q 28 (.fld (t 27) 0),l 29 28,m 21 29] (.cond (t 21) (x [q 6 (.mov (i 7))] .ret) .skip))))))))) (x [m 30 0,k 1 31 (.nilc (t 30)),k 2 32 (.fld (t 31) 1),r 3 33 (.ld (t 32)),k 4 34 (.mov (t 1)),k 5 35 (.mov (t 2)),e 36 (.call 37 [t 35]) [3],k 7 37 (.bld [.bool false,.slice none 0 0] [(0,(1,(.const (.bool true)))),(1,(1,(t 36)))]),k 8 38 (.idx (t 33) (t 34) 2),w (.stn (t 38) (t 37) 2) []] (x [q 6 (.mov (i 0))] .ret))))
theorem e_cycle_Cycle_Stop:EOk 11 39 m_cycle_Cycle_Stop Tryz.f11:=fun hn h =>
 enter Tryz.func11 (c:=(Tryz.f11.body.getD .skip)) rfl (by kernel_rfl) (Nat.le_of_ble_eq_true hn) h
def m_tumbrelref22_Cycle_Stop:MC:=(x [q 6 (.mov (i 0))] (s (x [m 9 1,q 10 (.bin .lss (t 9) (i 0)),m 11 10,n 0 12 11 (.mov (t 1)),n 0 13 11 (.mov (t 0)),n 0 14 11 (.nilc (t 13)),n 0 15 11 (.fld (t 14) 1),p 0 16 11 (.ld (t 15)),n 0 17 11 (.len (t 16)),n 0 18 11 (.bin .geq (t 12) (t 17)),q 19 (.pick (t 11) (.const (.bool true)) (t 18))] (.cond (t 19) (x [q 6 (.mov (i 1))] .ret) .skip)) (s (x [m 20 0,q 21 (.nilc (t 20)),q 22 (.fld (t 21) 3),l 23 22,q 24 (.bin .neq (t 23) (i 1))] (.cond (t 24) (x [q 6 (.mov (i 8))] .ret) .skip)) (s (x [m 25 0,q 26 (.nilc (t 25)),q 27 (.fld (t 26) 1),l 28 27,m 29 1,q 30 (.idx (t 28) (t 29) 1),l 31 30] (.cond (t 31) (x [q 6 (.mov (i 7))] .ret) .skip)) (x [e 32 (.bs0 4) [],m 33 0,q 34 (.nilc (t 33)),q 35 (.fld (t 34) 1),l 36 35,e 37 (.raw (o (.call ⟨(.builtin .append),[t 32,t 36].toArray,[48,48].toArray⟩) 48)) [],m 7 37] (x [m 38 7,m 39 1,q 40 (.idx (t 38) (t 39) 1),w (.st (t 40) (.const (.bool true))) []] (x [m 41 0,m 42 7,q 43 (.nilc (t 41)),q 44 (.fld (t 43) 1),w (.st (t 44) (t 42)) []] (x [e 45 (.bs0 38) [],m 46 0,q 47 (.nilc (t 46)),q 48 (.fld (t 47) 2),l 49 48,e 50 (.raw (o (.call ⟨(.builtin .append),[t 45,t 49].toArray,[49,49].toArray⟩) 49)) [],m 8 50] (x [m 51 8,m 52 1,m 53 2,q 54 (.idx (t 51) (t 52) 1),w (.st (t 54) (t 53)) []] (x [m 55 0,m 56 8,q 57 (.nilc (t 55)),q 58 (.fld (t 57) 2),w (.st (t 58) (t 56)) []] (x [q 6 (.mov (i 0))] .ret)))))))))))
theorem e_tumbrelref22_Cycle_Stop:EOk 12 59 m_tumbrelref22_Cycle_Stop Tryz.f12:=fun hn h =>
 enter Tryz.func12 (c:=(Tryz.f12.body.getD .skip)) rfl (by kernel_rfl) (Nat.le_of_ble_eq_true hn) h
def m_cycle_Cycle_Step:MC:=(x [q 2 (.mov (.const (.bool false)))] (x [q 3 (.mov (.const .nilFunc))] (s (x [m 4 0,e 5 (.call 16 [t 4]) []] (.block 0 (x [q 7 (.bin .eql (t 5) (i 1)),m 6 7] (.cond (t 6) (s (x [m 8 0,e 9 (.call 19 [t 8]) [],q 10 (.un .not (t 9))] (.cond (t 10) (x [q 2 (.mov (.const (.bool false)))] .ret) .skip)) (.reg [q 3 (.mov (.func 38))])) (x [q 12 (.bin .eql (t 5) (i 2)),m 11 12] (.cond (t 11) (.reg [q 3 (.mov (.func 39))]) (x [q 14 (.bin .eql (t 5) (i 3)),m 13 14] (.cond (t 13) (.reg [q 3 (.mov (.func 40))]) (x [q 16 (.bin .eql (t 5) (i 4)),m 15 16] (.cond (t 15) (.reg [q 3 (.mov (.func 41))]) (x [q 2 (.mov (.const (.bool false)))] .ret))))))))))) (x [m 17 3,m 18 0,e 19 (.callv (t 17) [t 18]) []] (x [q 2 (.mov (.const (.bool true)))] .ret)))))
theorem e_cycle_Cycle_Step:EOk 13 20 m_cycle_Cycle_Step Tryz.f13:=fun hn h =>
 enter Tryz.func13 (c:=(Tryz.f13.body.getD .skip)) rfl (by kernel_rfl) (Nat.le_of_ble_eq_true hn) h
def m_tumbrelref22_Cycle_Step:MC:=(x [q 2 (.mov (.const (.bool false)))] (s (x [m 5 0,q 6 (.nilc (t 5)),q 7 (.fld (t 6) 3),l 8 7,q 9 (.bin .eql (t 8) (i 0)),m 10 9,n 0 11 10 (.mov (t 0)),n 0 12 10 (.nilc (t 11)),n 0 13 10 (.fld (t 12) 3),p 0 14 10 (.ld (t 13)),n 0 15 10 (.bin .eql (t 14) (i 1)),n 0 16 10 (.mov (t 15)),g 0 17 16 (.mov (t 0)),.e (some 18) (some (16,true)) (.call 20 [t 17]) [],g 0 19 16 (.un .not (t 18)),n 0 20 10 (.pick (t 16) (t 19) (.const (.bool false))),q 21 (.pick (t 10) (.const (.bool true)) (t 20))] (.cond (t 21) (x [q 2 (.mov (.const (.bool false)))] .ret) .skip)) (s (x [m 22 0,q 23 (.nilc (t 22)),q 24 (.fld (t 23) 3),l 25 24] (.block 0 (x [q 27 (.bin .eql (t 25) (i 1)),m 26 27] (.cond (t 26) (x [m 28 0,q 29 (.nilc (t 28)),q 30 (.fld (t 29) 0),l 31 30,e 32 (.call 42 [t 31]) []] (x [m 33 0,m 34 0,q 35 (.nilc (t 34)),q 36 (.fld (t 35) 0),l 37 36,q 38 (.bld [.pointer none,.slice none 0 0,.int .i64 0] [(0,(1,(t 37)))]),e 39 (.box 90 (t 38)) [],q 40 (.nilc (t 33)),q 41 (.fld (t 40) 5),w (.st (t 41) (t 39)) []] (x [m 42 0,q 43 (.nilc (t 42)),q 44 (.fld (t 43) 4),w (.st (t 44) (i 0)) []] (x [m 45 0,q 46 (.nilc (t 45)),q 47 (.fld (t 46) 3),w (.st (t 47) (i 2)) []] (x [m 48 0,q 49 (.nilc (t 48)),q 50 (.fld (t 49) 1),l 51 50,q 52 (.len (t 51)),q 53 (.bin .eql (t 52) (i 0))] (.cond (t 53) (.reg [m 54 0,q 55 (.nilc (t 54)),q 56 (.fld (t 55) 3),w (.st (t 56) (i 3)) []]) .skip)))))) (x [q 58 (.bin .eql (t 25) (i 2)),m 57 58] (.cond (t 57) (s (x [m 59 0,k 1 60 (.nilc (t 59)),k 2 61 (.fld (t 60) 2),r 3 62 (.ld (t 61)),k 4 63 (.mov (t 0)),k 5 64 (.nilc (t 63)),k 6 65 (.fld (t 64) 4),r 7 66 (.ld (t 65)),k 8 67 (.idx (t 62) (t 66) 1),r 9 68 (.ld (t 67)),k 10 69 (.len (t 68)),k 11 70 (.mov (i 0))] (.block 1 (.loop (x [q 71 (.bin .lss (t 70) (t 69))] (s (.cond (t 71) .skip (.exit 1)) (s (.block 2 (x [q 72 (.idx (t 68) (t 70) 1),l 73 72,m 4 73] (.reg [m 74 0,q 75 (.nilc (t 74)),q 76 (.fld (t 75) 5),l 77 76,m 78 4,e 79 (.call 43 [t 77,t 78]) []]))) (.reg [q 80 (.bin .add (t 70) (i 1)),m 70 80]))))))) (x [m 81 0,q 82 (.nilc (t 81)),q 83 (.fld (t 82) 4),l 84 83,q 85 (.bin .add (t 84) (i 1)),q 86 (.nilc (t 81)),q 87 (.fld (t 86) 4),w (.st (t 87) (t 85)) []] (x [m 88 0,k 1 89 (.nilc (t 88)),k 2 90 (.fld (t 89) 4),r 3 91 (.ld (t 90)),k 4 92 (.mov (t 0)),k 5 93 (.nilc (t 92)),k 6 94 (.fld (t 93) 1),r 7 95 (.ld (t 94)),k 8 96 (.len (t 95)),k 9 97 (.bin .geq (t 91) (t 96))] (.cond (t 97) (.reg [m 98 0,q 99 (.nilc (t 98)),q 100 (.fld (t 99) 3),w (.st (t 100) (i 3)) []]) .skip)))) (x [q 102 (.bin .eql (t 25) (i 3)),m 101 102] (.cond (t 101) (x [m 103 0,q 104 (.nilc (t 103)),q 105 (.fld (t 104) 5),l 106 105,q 107 (.nilc (t 106)),q 108 (.fld (t 107) 1),l 109 108,q 110 (.len (t 109)),q 111 (.bin .gtr (t 110) (i 0))] (.cond (t 111) (.reg [m 112 0,q 113 (.nilc (t 112)),q 114 (.fld (t 113) 5),l 115 114,e 116 (.call 44 [t 115]) []]) (x [m 117 0,m 118 0,q 119 (.nilc (t 118)),q 120 (.fld (t 119) 0),l 121 120,e 122 (.call 45 [t 121]) [],q 123 (.nilc (t 117)),q 124 (.fld (t 123) 6),w (.st (t 124) (t 122)) []] (.reg [m 125 0,q 126 (.nilc (t 125)),q 127 (.fld (t 126) 3),w (.st (t 127) (i 4)) []])))) (x [q 129 (.bin .eql (t 25) (i 4)),m 128 129] (.cond (t 128) (x [m 130 0,q 131 (.nilc (t 130)),q 132 (.fld (t 131) 6),l 133 132,q 134 (.nilc (t 133)),q 135 (.fld (t 134) 1),l 136 135,q 137 (.len (t 136)),q 138 (.bin .gtr (t 137) (i 0))] (.cond (t 138) (.reg [m 139 0,q 140 (.nilc (t 139)),q 141 (.fld (t 140) 6),l 142 141,e 143 (.call 46 [t 142]) []]) (x [m 144 0,q 145 (.nilc (t 144)),q 146 (.fld (t 145) 3),w (.st (t 146) (i 0)) []] (x [m 147 0,q 148 (.nilc (t 147)),q 149 (.fld (t 148) 7),l 150 149,q 151 (.bin .add (t 150) (i 1)),q 152 (.nilc (t 147)),q 153 (.fld (t 152) 7),w (.st (t 153) (t 151)) []] (x [m 154 0,m 155 0,q 156 (.nilc (t 155)),q 157 (.fld (t 156) 6),l 158 157,q 159 (.nilc (t 158)),q 160 (.fld (t 159) 2),l 161 160,q 162 (.nilc (t 154)),q 163 (.fld (t 162) 8),w (.st (t 163) (t 161)) []] (x [m 164 0,m 165 0,q 166 (.nilc (t 165)),q 167 (.fld (t 166) 1),l 168 167,q 169 (.len (t 168)),e 170 (.raw (o (.makeSlice 48 (t 169) (t 169)) 48)) [],q 171 (.nilc (t 164)),q 172 (.fld (t 171) 1),w (.st (t 172) (t 170)) []] (.reg [m 173 0,m 174 0,q 175 (.nilc (t 174)),q 176 (.fld (t 175) 1),l 177 176,q 178 (.len (t 177)),e 179 (.raw (o (.makeSlice 49 (t 178) (t 178)) 49)) [],q 180 (.nilc (t 173)),q 181 (.fld (t 180) 2),w (.st (t 181) (t 179)) []]))))))) .skip)))))))))) (x [q 2 (.mov (.const (.bool true)))] .ret))))
theorem e_tumbrelref22_Cycle_Step:EOk 14 182 m_tumbrelref22_Cycle_Step Tryz.f14:=fun hn h =>
 enter Tryz.func14 (c:=(Tryz.f14.body.getD .skip)) rfl (by kernel_rfl) (Nat.le_of_ble_eq_true hn) h
def m_tumbrellaw18_Pair_Step:MC:=(x [e 4 (.box 37 (t 1)) [],q 6 (.mov (.const (.bool false)))] (x [m 17 0,q 18 (.fld (t 4) 1),l 19 18,q 20 (.fld (t 4) 2),l 21 20,e 22 (.call 47 [t 17,t 19,t 21]) [],m 7 22] (x [m 23 0,q 24 (.nilc (t 23)),q 25 (.fld (t 24) 0),l 26 25,e 27 (.call 48 [t 26]) [],e 28 (.call 49 [t 27]) [],m 8 28] (s (x [q 29 (.fld (t 4) 0),l 30 29] (.block 0 (s (x [q 32 (.bin .eql (t 30) (i 0)),m 31 32] (.cond (t 31) .skip (x [q 33 (.bin .eql (t 30) (i 1)),m 31 33] (.cond (t 31) .skip (.reg [q 34 (.bin .eql (t 30) (i 2)),m 31 34]))))) (.cond (t 31) (x [m 36 0,k 1 37 (.nilc (t 36)),k 2 38 (.fld (t 37) 0),r 3 39 (.ld (t 38)),k 4 40 (.fld (t 4) 8),r 5 41 (.ldn (t 40) 2),e 42 (.call 51 [t 41]) [3],e 43 (.call 50 [t 39,t 42]) [],k 8 35 (.mov (t 43)),k 9 44 (.ext (t 35) 0),k 10 45 (.ext (t 35) 1),k 11 9 (.mov (t 44)),k 12 10 (.mov (t 45))] (x [m 47 0,k 1 48 (.nilc (t 47)),k 2 49 (.fld (t 48) 1),r 3 50 (.ld (t 49)),k 4 51 (.fld (t 4) 8),r 5 52 (.ldn (t 51) 2),e 53 (.call 52 [t 50,t 52]) [],k 7 46 (.mov (t 53)),k 8 54 (.ext (t 46) 0),k 9 55 (.ext (t 46) 1),k 10 11 (.mov (t 54)),k 11 12 (.mov (t 55))] (x [m 56 9,m 57 11,q 58 (.bin .eql (t 56) (t 57)),m 59 58,g 0 60 59 (.mov (t 10)),g 0 61 59 (.mov (t 12)),g 0 62 59 (.bin .eql (t 60) (t 61)),q 63 (.pick (t 59) (t 62) (.const (.bool false))),m 6 63] .ret))) (x [q 65 (.bin .eql (t 30) (i 3)),m 64 65] (.cond (t 64) (x [m 66 0,k 1 67 (.nilc (t 66)),k 2 68 (.fld (t 67) 0),r 3 69 (.ld (t 68)),k 4 70 (.mov (t 7)),k 6 72 (.mov (t 0)),k 7 73 (.nilc (t 72)),k 8 74 (.fld (t 73) 1),r 9 75 (.ld (t 74)),k 10 76 (.mov (t 7)),e 71 (.call 53 [t 69,t 70]) [9],e 77 (.call 54 [t 75,t 76]) [],k 12 78 (.bin .eql (t 71) (t 77)),k 13 6 (.mov (t 78))] .ret) (x [q 80 (.bin .eql (t 30) (i 4)),m 79 80] (.cond (t 79) (x [m 81 0,k 1 82 (.nilc (t 81)),k 2 83 (.fld (t 82) 0),r 3 84 (.ld (t 83)),k 4 85 (.mov (t 7)),k 6 87 (.mov (t 0)),k 7 88 (.nilc (t 87)),k 8 89 (.fld (t 88) 1),r 9 90 (.ld (t 89)),k 10 91 (.mov (t 7)),e 86 (.call 55 [t 84,t 85]) [9],e 92 (.call 56 [t 90,t 91]) [],r 12 93 (.raw (o (.binOp .eql 4 (t 86) (t 92) 4) 4)),k 13 6 (.mov (t 93))] .ret) (x [q 95 (.bin .eql (t 30) (i 5)),m 94 95] (.cond (t 94) (x [m 96 0,k 1 97 (.nilc (t 96)),k 2 98 (.fld (t 97) 0),r 3 99 (.ld (t 98)),k 5 101 (.mov (t 0)),k 6 102 (.nilc (t 101)),k 7 103 (.fld (t 102) 1),r 8 104 (.ld (t 103)),e 100 (.call 57 [t 99]) [8],e 105 (.call 42 [t 104]) [],k 10 106 (.bin .eql (t 100) (t 105)),k 11 6 (.mov (t 106))] .ret) (x [q 108 (.bin .eql (t 30) (i 6)),m 107 108] (.cond (t 107) (x [m 109 0,k 1 110 (.nilc (t 109)),k 2 111 (.fld (t 110) 0),r 3 112 (.ld (t 111)),k 4 113 (.fld (t 4) 3),r 5 114 (.ld (t 113)),k 7 116 (.mov (t 0)),k 8 117 (.nilc (t 116)),k 9 118 (.fld (t 117) 1),r 10 119 (.ld (t 118)),k 11 120 (.fld (t 4) 3),r 12 121 (.ld (t 120)),e 115 (.call 58 [t 112,t 114]) [12,10],e 122 (.call 59 [t 119,t 121]) [],k 14 123 (.bin .eql (t 115) (t 122)),k 15 6 (.mov (t 123))] .ret) (s (x [q 125 (.bin .eql (t 30) (i 7)),m 124 125] (.cond (t 124) .skip (.reg [q 126 (.bin .eql (t 30) (i 8)),m 124 126]))) (.cond (t 124) (s (x [m 127 0,q 128 (.nilc (t 127)),q 129 (.fld (t 128) 1),l 130 129,m 131 7,e 132 (.call 60 [t 130,t 131]) [],q 133 (.bin .lss (t 132) (i 0))] (.cond (t 133) (x [q 6 (.mov (.const (.bool true)))] .ret) .skip)) (s (x [q 134 (.fld (t 4) 0),l 135 134,q 136 (.bin .eql (t 135) (i 7))] (.cond (t 136) (.reg [m 137 8,k 1 138 (.mov (t 7)),k 2 139 (.fld (t 4) 4),r 3 140 (.ld (t 139)),k 4 141 (.mov (t 0)),k 5 142 (.fld (t 4) 5),r 6 143 (.ld (t 142)),e 144 (.call 47 [t 141,t 143,i (-1)]) [3],e 145 (.call 61 [t 137,t 138,t 140,t 144]) []]) (.reg [m 146 8,m 147 7,q 148 (.fld (t 4) 4),l 149 148,q 150 (.fld (t 4) 7),l 151 150,e 152 (.call 62 [t 146,t 147,t 149,t 151]) []]))) (x [m 153 0,e 154 (.call 63 [t 153]) []] (x [q 6 (.mov (.const (.bool true)))] .ret)))) (x [q 156 (.bin .eql (t 30) (i 9)),m 155 156] (.cond (t 155) (x [m 158 0,k 1 159 (.nilc (t 158)),k 2 160 (.fld (t 159) 0),r 3 161 (.ld (t 160)),k 5 163 (.fld (t 4) 6),r 6 164 (.ld (t 163)),e 162 (.call 48 [t 161]) [6],e 165 (.call 64 [t 162,t 164]) [],k 8 157 (.mov (t 165)),k 9 166 (.ext (t 157) 0),k 10 167 (.ext (t 157) 1),k 11 13 (.mov (t 166)),k 12 14 (.mov (t 167))] (x [m 169 0,k 1 170 (.nilc (t 169)),k 2 171 (.fld (t 170) 1),r 3 172 (.ld (t 171)),k 4 173 (.nilc (t 172)),k 5 174 (.fld (t 173) 0),r 6 175 (.ld (t 174)),k 7 176 (.fld (t 4) 6),r 8 177 (.ld (t 176)),e 178 (.call 65 [t 175,t 177]) [3],k 10 168 (.mov (t 178)),k 11 179 (.ext (t 168) 0),k 12 180 (.ext (t 168) 1),k 13 15 (.mov (t 179)),k 14 16 (.mov (t 180))] (x [m 181 13,m 182 15,q 183 (.bin .eql (t 181) (t 182)),m 184 183,g 0 185 184 (.mov (t 14)),g 0 186 184 (.mov (t 16)),g 0 187 184 (.bin .eql (t 185) (t 186)),q 188 (.pick (t 184) (t 187) (.const (.bool false))),m 6 188] .ret))) (x [q 190 (.bin .eql (t 30) (i 10)),m 189 190] (.cond (t 189) (s (x [m 191 2] (.cond (t 191) (x [m 192 8,q 193 (.fld (t 4) 2),l 194 193,q 195 (.fld (t 4) 7),l 196 195,e 197 (.call 66 [t 192,t 194,t 196]) []] (.reg [m 198 0,e 199 (.call 63 [t 198]) []])) .skip)) (x [q 6 (.mov (.const (.bool true)))] .ret)) .skip)))))))))))))))))) (x [m 200 0,k 1 201 (.nilc (t 200)),k 2 202 (.fld (t 201) 0),r 3 203 (.ld (t 202)),k 4 204 (.fld (t 4) 8),r 5 205 (.ldn (t 204) 2),k 8 208 (.mov (t 0)),k 9 209 (.nilc (t 208)),k 10 210 (.fld (t 209) 1),r 11 211 (.ld (t 210)),k 12 212 (.fld (t 4) 8),r 13 213 (.ldn (t 212) 2),e 206 (.call 51 [t 205]) [13,11,3],e 207 (.call 67 [t 203,t 206]) [13,11],e 214 (.call 68 [t 211,t 213]) [],r 15 215 (.raw (o (.binOp .eql 4 (t 207) (t 214) 4) 4)),k 16 6 (.mov (t 215))] .ret)))))
theorem e_tumbrellaw18_Pair_Step:EOk 15 216 m_tumbrellaw18_Pair_Step Tryz.f15:=fun hn h =>
 enter Tryz.func15 (c:=(Tryz.f15.body.getD .skip)) rfl (by kernel_rfl) (Nat.le_of_ble_eq_true hn) h
def m_cycle_Cycle_Phase:MC:=(x [q 2 (.mov (i 0))] (s (x [m 3 0,q 4 (.nilp false (t 3))] (.cond (t 4) (x [q 2 (.mov (i 0))] .ret) .skip)) (x [m 5 0,q 6 (.nilc (t 5)),q 7 (.fld (t 6) 2),l 8 7,m 2 8] .ret)))
theorem e_cycle_Cycle_Phase:EOk 16 9 m_cycle_Cycle_Phase Tryz.f16:=fun hn h =>
 enter Tryz.func16 (c:=(Tryz.f16.body.getD .skip)) rfl (by kernel_rfl) (Nat.le_of_ble_eq_true hn) h
def m_cycle_Cycle_Count:MC:=(x [q 2 (.mov (i 0))] (s (x [m 3 0,q 4 (.nilp false (t 3))] (.cond (t 4) (x [q 2 (.mov (i 0))] .ret) .skip)) (x [m 5 0,q 6 (.nilc (t 5)),q 7 (.fld (t 6) 6),l 8 7,m 2 8] .ret)))
theorem e_cycle_Cycle_Count:EOk 17 9 m_cycle_Cycle_Count Tryz.f17:=fun hn h =>
 enter Tryz.func17 (c:=(Tryz.f17.body.getD .skip)) rfl (by kernel_rfl) (Nat.le_of_ble_eq_true hn) h
def m_cycle_Cycle_Gone:MC:=(x [q 2 (.mov (i 0))] (s (x [m 3 0,q 4 (.nilp false (t 3))] (.cond (t 4) (x [q 2 (.mov (i 0))] .ret) .skip)) (x [m 5 0,q 6 (.nilc (t 5)),q 7 (.fld (t 6) 7),l 8 7,m 2 8] .ret)))
theorem e_cycle_Cycle_Gone:EOk 18 9 m_cycle_Cycle_Gone Tryz.f18:=fun hn h =>
 enter Tryz.func18 (c:=(Tryz.f18.body.getD .skip)) rfl (by kernel_rfl) (Nat.le_of_ble_eq_true hn) h
def m_cycle_Cycle_All:MC:=(x [q 2 (.mov (.const (.bool false)))] (x [m 3 0,q 4 (.nilp true (t 3)),m 5 4,g 0 6 5 (.mov (t 0)),g 0 7 5 (.nilc (t 6)),g 0 8 5 (.fld (t 7) 1),h 0 9 5 (.ld (t 8)),.e (some 10) (some (5,true)) (.call 69 [t 9,.func 70]) [],g 0 11 5 (.un .not (t 10)),q 12 (.pick (t 5) (t 11) (.const (.bool false))),m 2 12] .ret))
theorem e_cycle_Cycle_All:EOk 19 13 m_cycle_Cycle_All Tryz.f19:=fun hn h =>
 enter Tryz.func19 (c:=(Tryz.f19.body.getD .skip)) rfl (by kernel_rfl) (Nat.le_of_ble_eq_true hn) h
def m_tumbrelref22_Cycle_All:MC:=(x [q 2 (.mov (.const (.bool false)))] (s (x [m 5 0,q 6 (.nilc (t 5)),q 7 (.fld (t 6) 1),l 8 7,q 9 (.len (t 8)),q 10 (.mov (i 0))] (.block 0 (.loop (x [q 11 (.bin .lss (t 10) (t 9))] (s (.cond (t 11) .skip (.exit 0)) (s (.block 1 (x [q 12 (.idx (t 8) (t 10) 1),l 13 12,m 4 13] (x [m 14 4,q 15 (.un .not (t 14))] (.cond (t 15) (x [q 2 (.mov (.const (.bool false)))] .ret) .skip)))) (.reg [q 16 (.bin .add (t 10) (i 1)),m 10 16]))))))) (x [q 2 (.mov (.const (.bool true)))] .ret)))
theorem e_tumbrelref22_Cycle_All:EOk 20 17 m_tumbrelref22_Cycle_All Tryz.f20:=fun hn h =>
 enter Tryz.func20 (c:=(Tryz.f20.body.getD .skip)) rfl (by kernel_rfl) (Nat.le_of_ble_eq_true hn) h
def m_cycle_Cycle_Stopped:MC:=(x [q 4 (.mov (.const (.bool false)))] (x [m 5 0,m 6 1,e 7 (.call 36 [t 5,t 6]) [],m 8 7,g 0 9 8 (.mov (t 0)),g 0 10 8 (.nilc (t 9)),g 0 11 8 (.fld (t 10) 1),h 0 12 8 (.ld (t 11)),g 0 13 8 (.mov (t 1)),g 0 14 8 (.idx (t 12) (t 13) 2),g 0 15 8 (.fld (t 14) 0),h 0 16 8 (.ld (t 15)),q 17 (.pick (t 8) (t 16) (.const (.bool false))),m 4 17] .ret))
theorem e_cycle_Cycle_Stopped:EOk 21 18 m_cycle_Cycle_Stopped Tryz.f21:=fun hn h =>
 enter Tryz.func21 (c:=(Tryz.f21.body.getD .skip)) rfl (by kernel_rfl) (Nat.le_of_ble_eq_true hn) h
def m_tumbrellaw18_Pair_Same:MC:=(x [q 2 (.mov (.const (.bool false)))] (x [m 13 0,k 1 14 (.nilc (t 13)),k 2 15 (.fld (t 14) 0),r 3 16 (.ld (t 15)),k 6 19 (.mov (t 0)),k 7 20 (.nilc (t 19)),k 8 21 (.fld (t 20) 1),r 9 22 (.ld (t 21)),k 10 23 (.nilc (t 22)),k 11 24 (.fld (t 23) 0),r 12 25 (.ld (t 24)),k 13 26 (.nilc (t 25)),k 14 27 (.fld (t 26) 2),r 15 28 (.ld (t 27)),k 16 29 (.len (t 28)),e 17 (.call 48 [t 16]) [15,12,9],e 18 (.call 49 [t 17]) [15,12,9],e 30 (.call 71 [t 18,i 0,t 29]) [15,12,9],k 18 12 (.mov (t 30)),k 19 31 (.ext (t 12) 0),k 20 32 (.ext (t 12) 1),k 21 3 (.mov (t 31)),k 22 4 (.mov (t 32))] (s (x [m 33 4,k 1 34 (.bin .neq (t 33) (i 0)),k 2 35 (.mov (t 34)),n 3 36 35 (.mov (t 3)),p 4 37 35 (.raw (o (.convert 115 9 (t 36)) 9)),n 5 38 35 (.mov (t 0)),n 6 39 35 (.nilc (t 38)),n 7 40 35 (.fld (t 39) 1),p 8 41 35 (.ld (t 40)),n 9 42 35 (.nilc (t 41)),n 10 43 35 (.fld (t 42) 0),p 11 44 35 (.ld (t 43)),n 12 45 35 (.nilc (t 44)),n 13 46 35 (.fld (t 45) 2),p 14 47 35 (.ld (t 46)),p 15 48 35 (.raw (o (.convert 115 9 (t 47)) 9)),p 16 49 35 (.raw (o (.binOp .neq 9 (t 37) (t 48) 9) 4)),k 17 50 (.pick (t 35) (.const (.bool true)) (t 49)),k 18 51 (.mov (t 50)),n 19 52 51 (.mov (t 0)),n 20 53 51 (.nilc (t 52)),n 21 54 51 (.fld (t 53) 0),p 22 55 51 (.ld (t 54)),n 25 58 51 (.mov (t 0)),n 26 59 51 (.nilc (t 58)),n 27 60 51 (.fld (t 59) 1),p 28 61 51 (.ld (t 60)),n 29 62 51 (.nilc (t 61)),n 30 63 51 (.fld (t 62) 0),p 31 64 51 (.ld (t 63)),n 32 65 51 (.nilc (t 64)),n 33 66 51 (.fld (t 65) 3),p 34 67 51 (.ld (t 66)),.e (some 56) (some (51,false)) (.call 48 [t 55]) [34,31,28,16,15,14,11,8,4],.e (some 57) (some (51,false)) (.call 73 [t 56]) [34,31,28,16,15,14,11,8,4],.e (some 68) (some (51,false)) (.call 72 [t 57,t 67]) [31,28,16,15,14,11,8,4],n 36 69 51 (.un .not (t 68)),k 37 70 (.pick (t 51) (.const (.bool true)) (t 69))] (.cond (t 70) (x [q 2 (.mov (.const (.bool false)))] .ret) .skip)) (x [m 71 0,q 72 (.nilc (t 71)),q 73 (.fld (t 72) 0),l 74 73,e 75 (.call 74 [t 74]) [],m 5 75] (s (x [m 76 5,q 77 (.len (t 76)),m 78 0,q 79 (.nilc (t 78)),q 80 (.fld (t 79) 1),l 81 80,q 82 (.nilc (t 81)),q 83 (.fld (t 82) 1),l 84 83,q 85 (.len (t 84)),q 86 (.bin .neq (t 77) (t 85))] (.cond (t 86) (x [q 2 (.mov (.const (.bool false)))] .ret) .skip)) (s (x [m 87 0,q 88 (.nilc (t 87)),q 89 (.fld (t 88) 1),l 90 89,q 91 (.nilc (t 90)),q 92 (.fld (t 91) 1),l 93 92,q 94 (.len (t 93)),q 95 (.mov (i 0))] (.block 0 (.loop (x [q 96 (.bin .lss (t 95) (t 94))] (s (.cond (t 96) .skip (.exit 0)) (s (.block 1 (x [m 97 95,q 98 (.idx (t 93) (t 95) 2),r 0 99 (.ldn (t 98) 2),e 7 (.new 66 [.int .i64 0,.bool false]) [],m 6 97,w (.stn (t 7) (t 99) 2) []] (x [m 100 5,k 1 101 (.mov (t 6)),k 2 102 (.idx (t 100) (t 101) 1),r 3 103 (.ld (t 102)),k 4 104 (.fld (t 7) 0),r 5 105 (.ld (t 104)),k 6 106 (.bin .neq (t 103) (t 105)),k 7 107 (.mov (t 106)),n 8 108 107 (.mov (t 0)),n 9 109 107 (.nilc (t 108)),n 10 110 107 (.fld (t 109) 0),p 11 111 107 (.ld (t 110)),n 12 112 107 (.fld (t 7) 0),p 13 113 107 (.ld (t 112)),.e (some 114) (some (107,false)) (.call 75 [t 111,t 113]) [5,3],n 15 115 107 (.un .not (t 114)),k 16 116 (.pick (t 107) (.const (.bool true)) (t 115)),k 17 117 (.mov (t 116)),n 18 118 117 (.mov (t 0)),n 19 119 117 (.nilc (t 118)),n 20 120 117 (.fld (t 119) 0),p 21 121 117 (.ld (t 120)),n 22 122 117 (.fld (t 7) 0),p 23 123 117 (.ld (t 122)),n 25 125 117 (.fld (t 7) 1),p 26 126 117 (.ld (t 125)),.e (some 124) (some (117,false)) (.call 76 [t 121,t 123]) [26,5,3],p 27 127 117 (.raw (o (.binOp .neq 4 (t 124) (t 126) 4) 4)),k 28 128 (.pick (t 117) (.const (.bool true)) (t 127))] (.cond (t 128) (x [q 2 (.mov (.const (.bool false)))] .ret) .skip)))) (.reg [q 129 (.bin .add (t 95) (i 1)),m 95 129]))))))) (x [q 8 (.mov (i 0))] (s (x [m 130 0,q 131 (.nilc (t 130)),q 132 (.fld (t 131) 1),l 133 132,q 134 (.nilc (t 133)),q 135 (.fld (t 134) 0),l 136 135,q 137 (.nilc (t 136)),q 138 (.fld (t 137) 3),l 139 138,q 140 (.len (t 139)),q 141 (.mov (i 0))] (.block 2 (.loop (x [q 142 (.bin .lss (t 141) (t 140))] (s (.cond (t 142) .skip (.exit 2)) (s (.block 3 (x [m 143 141,m 9 143] (x [m 144 0,k 1 145 (.nilc (t 144)),k 2 146 (.fld (t 145) 0),r 3 147 (.ld (t 146)),k 4 148 (.mov (t 9)),k 6 150 (.mov (t 0)),k 7 151 (.nilc (t 150)),k 8 152 (.fld (t 151) 1),r 9 153 (.ld (t 152)),k 10 154 (.mov (t 9)),e 149 (.call 77 [t 147,t 148]) [9],e 155 (.call 78 [t 153,t 154]) [],k 12 10 (.mov (t 149)),k 13 11 (.mov (t 155))] (s (x [m 156 10,q 157 (.len (t 156)),m 158 11,q 159 (.len (t 158)),q 160 (.bin .neq (t 157) (t 159))] (.cond (t 160) (x [q 2 (.mov (.const (.bool false)))] .ret) .skip)) (x [m 161 0,q 162 (.nilc (t 161)),q 163 (.fld (t 162) 1),l 164 163,m 165 9,e 166 (.call 79 [t 164,t 165]) []] (.cond (t 166) (s (x [m 167 8,m 168 0,q 169 (.nilc (t 168)),q 170 (.fld (t 169) 0),l 171 170,e 172 (.call 80 [t 171]) [],q 173 (.len (t 172)),q 174 (.bin .geq (t 167) (t 173)),m 175 174,n 0 176 175 (.mov (t 0)),n 0 177 175 (.nilc (t 176)),n 0 178 175 (.fld (t 177) 0),p 0 179 175 (.ld (t 178)),.e (some 180) (some (175,false)) (.call 80 [t 179]) [],n 0 181 175 (.mov (t 8)),n 0 182 175 (.idx (t 180) (t 181) 1),p 0 183 175 (.ld (t 182)),n 0 184 175 (.mov (t 9)),n 0 185 175 (.bin .neq (t 183) (t 184)),q 186 (.pick (t 175) (.const (.bool true)) (t 185))] (.cond (t 186) (x [q 2 (.mov (.const (.bool false)))] .ret) .skip)) (.reg [m 187 8,q 188 (.bin .add (t 187) (i 1)),m 8 188])) .skip)))))) (.reg [q 189 (.bin .add (t 141) (i 1)),m 141 189]))))))) (x [m 190 8,m 191 0,q 192 (.nilc (t 191)),q 193 (.fld (t 192) 0),l 194 193,e 195 (.call 80 [t 194]) [],q 196 (.len (t 195)),q 197 (.bin .eql (t 190) (t 196)),m 198 197,g 0 199 198 (.mov (t 0)),g 0 200 198 (.nilc (t 199)),g 0 201 198 (.fld (t 200) 0),h 0 202 198 (.ld (t 201)),.e (some 203) (some (198,true)) (.call 75 [t 202,i (-16)]) [],g 0 204 198 (.un .not (t 203)),q 205 (.pick (t 198) (t 204) (.const (.bool false))),m 206 205,g 0 207 206 (.mov (t 0)),g 0 208 206 (.nilc (t 207)),g 0 209 206 (.fld (t 208) 0),h 0 210 206 (.ld (t 209)),g 0 211 206 (.mov (t 3)),g 0 212 206 (.len (t 211)),.e (some 213) (some (206,true)) (.call 75 [t 210,t 212]) [],g 0 214 206 (.un .not (t 213)),q 215 (.pick (t 206) (t 214) (.const (.bool false))),m 2 215] .ret)))))))))
theorem e_tumbrellaw18_Pair_Same:EOk 22 216 m_tumbrellaw18_Pair_Same Tryz.f22:=fun hn h =>
 enter Tryz.func22 (c:=(Tryz.f22.body.getD .skip)) rfl (by kernel_rfl) (Nat.le_of_ble_eq_true hn) h
def m_tumbrellaw22_awake:MC:=(x [q 0 (.mov (.const (.bool false)))] (x [q 9 (.bld [.int .i64 0,.int .i64 0,.int .u64 0] [(1,(1,(i 1)))]),e 10 (.call 33 [t 9]) [],m 8 10,q 11 (.ext (t 8) 0),q 12 (.ext (t 8) 1),m 1 11,m 2 12] (x [m 13 1,e 14 (.call 34 [t 13]) [],m 3 14] (x [m 15 3,q 16 (.bld [.int .i64 0,.int .i64 0] []),e 17 (.call 50 [t 15,t 16]) []] (x [m 18 3,q 19 (.bld [.int .i64 0,.int .i64 0] []),e 20 (.call 50 [t 18,t 19]) []] (x [m 21 3,e 22 (.call 6 [t 21,i 1]) [],m 4 22] (x [m 23 4,e 24 (.call 8 [t 23]) [],m 25 4,e 26 (.call 11 [t 25,i 0,.const (.slice none 0 0)]) [],m 5 24,m 6 26] (x [q 7 (.mov (i 0))] (s (.block 0 (.loop (s (x [m 27 7,q 28 (.bin .lss (t 27) (i 20)),m 29 28,g 0 30 29 (.mov (t 4)),.e (some 31) (some (29,true)) (.call 13 [t 30]) [],q 32 (.pick (t 29) (t 31) (.const (.bool false)))] (.cond (t 32) .skip (.exit 0))) (.block 1 (.reg [m 33 7,q 34 (.bin .add (t 33) (i 1)),m 7 34]))))) (x [m 35 5,q 36 (.bin .eql (t 35) (i 0)),m 37 36,g 0 38 37 (.mov (t 6)),g 0 39 37 (.bin .eql (t 38) (i 0)),q 40 (.pick (t 37) (t 39) (.const (.bool false))),m 41 40,g 0 42 41 (.mov (t 7)),g 0 43 41 (.bin .eql (t 42) (i 5)),q 44 (.pick (t 41) (t 43) (.const (.bool false))),m 45 44,g 0 46 45 (.mov (t 4)),.e (some 47) (some (45,true)) (.call 16 [t 46]) [],g 0 48 45 (.bin .eql (t 47) (i 0)),q 49 (.pick (t 45) (t 48) (.const (.bool false))),m 50 49,g 0 51 50 (.mov (t 4)),.e (some 52) (some (50,true)) (.call 18 [t 51]) [],g 0 53 50 (.bin .eql (t 52) (i 2)),q 54 (.pick (t 50) (t 53) (.const (.bool false))),m 55 54,g 0 56 55 (.mov (t 4)),.e (some 57) (some (55,true)) (.call 17 [t 56]) [],g 0 58 55 (.bin .eql (t 57) (i 1)),q 59 (.pick (t 55) (t 58) (.const (.bool false))),m 0 59] .ret))))))))))
theorem e_tumbrellaw22_awake:EOk 23 60 m_tumbrellaw22_awake Tryz.f23:=fun hn h =>
 enter Tryz.func23 (c:=(Tryz.f23.body.getD .skip)) rfl (by kernel_rfl) (Nat.le_of_ble_eq_true hn) h
def m_tumbrelref19_Refs:MC:=(x [q 4 (.mov (.const (.slice none 0 0)))] (x [q 5 (.mov (.const (.slice none 0 0)))] (x [m 12 0,q 13 (.nilc (t 12)),q 14 (.fld (t 13) 0),l 15 14,q 16 (.nilc (t 15)),q 17 (.fld (t 16) 2),l 18 17,m 19 1,e 20 (.call 84 [t 18,t 19]) [],m 11 20,q 21 (.ext (t 11) 0),q 22 (.ext (t 11) 1),e 6 (.new 35 [.int .i64 0,.int .i64 0]) [],w (.stn (t 6) (t 21) 2) [],m 7 22] (s (x [q 8 (.mov (i 0))] (.block 0 (.loop (s (x [m 23 7,q 24 (.bin .eql (t 23) (i 0)),m 25 24,g 0 26 25 (.mov (t 8)),g 0 27 25 (.fld (t 6) 0),h 0 28 25 (.ld (t 27)),g 0 29 25 (.bin .lss (t 26) (t 28)),q 30 (.pick (t 25) (t 29) (.const (.bool false)))] (.cond (t 30) .skip (.exit 0))) (s (.block 1 (x [m 34 0,q 35 (.nilc (t 34)),q 36 (.fld (t 35) 0),l 37 36,q 38 (.nilc (t 37)),q 39 (.fld (t 38) 2),l 40 39,m 41 1,m 42 8,e 43 (.call 85 [t 40,t 41,t 42,.const (.bool false)]) [],m 33 43,q 44 (.ext (t 33) 0),q 45 (.ext (t 33) 1),m 9 44,m 10 45] (.reg [m 46 5,m 47 0,q 48 (.nilc (t 47)),q 49 (.fld (t 48) 0),l 50 49,q 51 (.nilc (t 50)),q 52 (.fld (t 51) 2),l 53 52,m 54 9,m 55 9,q 56 (.bin .add (t 55) (i 8)),q 57 (.slc (t 53) (some (t 54)) (some (t 56)) 1),e 58 (.call 86 [t 57]) [],q 59 (.cvi .i64 (t 58)),q 60 (.bin .sub (t 59) (i 1)),e 61 (.bs1 3 1 (t 60)) [],e 62 (.raw (o (.call ⟨(.builtin .append),[t 46,t 61].toArray,[38,38].toArray⟩) 38)) [],m 5 62]))) (.reg [m 31 8,q 32 (.bin .add (t 31) (i 1)),m 8 32])))))) (x [m 63 5,m 4 63] .ret)))))
theorem e_tumbrelref19_Refs:EOk 29 64 m_tumbrelref19_Refs Tryz.f29:=fun hn h =>
 enter Tryz.func29 (c:=(Tryz.f29.body.getD .skip)) rfl (by kernel_rfl) (Nat.le_of_ble_eq_true hn) h
def m_region_New:MC:=(x [e 1 (.box 77 (t 0)) [],q 2 (.mov (.const (.pointer none))),q 3 (.mov (i 0))] (s (x [q 6 (.fld (t 1) 0),l 7 6,q 8 (.bin .lss (t 7) (i 0)),m 9 8,n 0 10 9 (.fld (t 1) 1),p 0 11 9 (.ld (t 10)),n 0 12 9 (.bin .lss (t 11) (i 0)),q 13 (.pick (t 9) (.const (.bool true)) (t 12)),m 14 13,n 0 15 14 (.fld (t 1) 0),p 0 16 14 (.ld (t 15)),n 0 17 14 (.bin .gtr (t 16) (i 256)),q 18 (.pick (t 14) (.const (.bool true)) (t 17)),m 19 18,n 0 20 19 (.fld (t 1) 1),p 0 21 19 (.ld (t 20)),n 0 22 19 (.fld (t 1) 0),p 0 23 19 (.ld (t 22)),n 0 24 19 (.bin .sub (i 256) (t 23)),n 0 25 19 (.bin .gtr (t 21) (t 24)),q 26 (.pick (t 19) (.const (.bool true)) (t 25)),m 27 26,n 0 28 27 (.fld (t 1) 0),p 0 29 27 (.ld (t 28)),n 0 30 27 (.fld (t 1) 1),p 0 31 27 (.ld (t 30)),n 0 32 27 (.bin .add (t 29) (t 31)),n 0 33 27 (.bin .lss (t 32) (i 1)),q 34 (.pick (t 27) (.const (.bool true)) (t 33))] (.cond (t 34) (x [q 2 (.mov (.const (.pointer none))),q 3 (.mov (i 1))] .ret) .skip)) (x [q 35 (.fld (t 1) 0),l 36 35,q 37 (.fld (t 1) 1),l 38 37,q 39 (.bin .add (t 36) (t 38)),e 40 (.call 90 [t 39]) [],m 4 40] (x [q 41 (.fld (t 1) 2),l 42 41,e 43 (.call 91 [t 42]) [],e 5 (.new 143 [.int .u64 0]) [],w (.stn (t 5) (t 43) 1) []] (s (.regT (.q 0 (some 44) none (.ldn (t 1) 3) true (.q 1 (some 45) none (.mov (t 4)) false (.q 2 (some 46) none (.fld (t 1) 0) false (.q 3 (some 47) none (.ld (t 46)) true (.q 4 (some 48) none (.fld (t 1) 1) false (.q 5 (some 49) none (.ld (t 48)) true (.q 6 (some 50) none (.bin .add (t 47) (t 49)) false (.q 8 (some 52) none (.ldn (t 5) 1) true (.q 10 (some 54) none (.mov (t 4)) false (.q 11 (some 55) none (.ldn (t 5) 1) true (.alt (.e (some 51) none (.call 92 [t 50]) [11,8,5,3,0] (.alt (.e (some 53) none (.raw (o (.makeMap 146 none) 146)) [11,8,5,3,0] (.e (some 56) none (.call 93 [t 54,t 55]) [8,5,3,0] (.q 13 (some 57) none (.bld [.int .i64 0,.int .i64 0,.int .u64 0,.pointer none,.pointer none,.int .u64 0,.map none,.pointer none] [(0,(3,(t 44))),(3,(1,(t 45))),(4,(1,(t 51))),(5,(1,(t 52))),(6,(1,(t 53))),(7,(1,(t 56)))]) false (.e (some 58) none (.box 150 (t 57)) [8,5,3,0] (.q 15 (some 2) none (.mov (t 58)) false (.q 16 (some 3) none (.mov (i 0)) false .done)))))) (.e (some 56) none (.call 93 [t 54,t 55]) [8,5,3,0] (.e (some 53) none (.raw (o (.makeMap 146 none) 146)) [8,5,3,0] (.q 13 (some 57) none (.bld [.int .i64 0,.int .i64 0,.int .u64 0,.pointer none,.pointer none,.int .u64 0,.map none,.pointer none] [(0,(3,(t 44))),(3,(1,(t 45))),(4,(1,(t 51))),(5,(1,(t 52))),(6,(1,(t 53))),(7,(1,(t 56)))]) false (.e (some 58) none (.box 150 (t 57)) [8,5,3,0] (.q 15 (some 2) none (.mov (t 58)) false (.q 16 (some 3) none (.mov (i 0)) false .done)))))))) (.e (some 53) none (.raw (o (.makeMap 146 none) 146)) [11,8,5,3,0] (.e (some 51) none (.call 92 [t 50]) [11,8,5,3,0] (.e (some 56) none (.call 93 [t 54,t 55]) [8,5,3,0] (.q 13 (some 57) none (.bld [.int .i64 0,.int .i64 0,.int .u64 0,.pointer none,.pointer none,.int .u64 0,.map none,.pointer none] [(0,(3,(t 44))),(3,(1,(t 45))),(4,(1,(t 51))),(5,(1,(t 52))),(6,(1,(t 53))),(7,(1,(t 56)))]) false (.e (some 58) none (.box 150 (t 57)) [8,5,3,0] (.q 15 (some 2) none (.mov (t 58)) false (.q 16 (some 3) none (.mov (i 0)) false .done))))))))))))))))))) .ret)))))
theorem e_region_New:EOk 33 59 m_region_New Tryz.f33:=fun hn h =>
 enter Tryz.func33 (c:=(Tryz.f33.body.getD .skip)) rfl (by kernel_rfl) (Nat.le_of_ble_eq_true hn) h
def m_gheap_New:MC:=(x [q 2 (.mov (.const (.pointer none)))] (s (x [m 5 0,q 6 (.nilp false (t 5))] (.cond (t 6) (x [q 2 (.mov (.const (.pointer none)))] .ret) .skip)) (x [m 7 0,e 8 (.call 94 [t 7]) [],e 3 (.new 77 [.int .i64 0,.int .i64 0,.int .u64 0]) [],w (.stn (t 3) (t 8) 3) []] (x [m 9 0,e 10 (.call 49 [t 9]) [],e 11 (.call 95 [t 10]) [],q 12 (.bin .quo (t 11) (i 16)),m 4 12] (x [m 13 0,k 1 14 (.fld (t 3) 0),r 2 15 (.ld (t 14)),k 3 16 (.fld (t 3) 0),r 4 17 (.ld (t 16)),k 5 18 (.fld (t 3) 1),r 6 19 (.ld (t 18)),k 7 20 (.bin .add (t 17) (t 19)),k 8 21 (.mov (t 4)),k 10 23 (.mov (t 4)),e 22 (.call 96 [t 21]) [6,4,2],e 24 (.call 96 [t 23]) [6,4,2],k 12 25 (.bld [.pointer none,.int .i64 0,.int .i64 0,.pointer none,.pointer none] [(0,(1,(t 13))),(1,(1,(t 15))),(2,(1,(t 20))),(3,(1,(t 22))),(4,(1,(t 24)))]),e 26 (.box 155 (t 25)) [6,4,2],k 14 2 (.mov (t 26))] .ret)))))
theorem e_gheap_New:EOk 34 27 m_gheap_New Tryz.f34:=fun hn h =>
 enter Tryz.func34 (c:=(Tryz.f34.body.getD .skip)) rfl (by kernel_rfl) (Nat.le_of_ble_eq_true hn) h
def m_tumbrelref09_New:MC:=(x [q 6 (.mov (.const (.pointer none)))] (x [m 9 0,m 10 1,q 11 (.bin .add (t 9) (t 10)),m 7 11] (s (.regT (.q 0 (some 12) none (.mov (t 0)) false (.q 1 (some 13) none (.mov (t 2)) false (.q 3 (some 15) none (.mov (t 7)) false (.q 4 (some 16) none (.bin .mul (i 256) (t 15)) false (.q 6 (some 18) none (.mov (t 7)) false (.q 8 (some 20) none (.mov (t 7)) false (.alt (.e (some 14) none (.call 97 [t 13]) [] (.alt (.e (some 17) none (.raw (o (.makeSlice 115 (t 16) (t 16)) 115)) [] (.alt (.e (some 19) none (.call 98 [t 18]) [] (.e (some 21) none (.raw (o (.makeSlice 119 (t 20) (t 20)) 119)) [] (.q 10 (some 22) none (.bld [.int .i64 0,.int .u64 0,.slice none 0 0,.slice none 0 0,.slice none 0 0,.pointer none] [(0,(1,(t 12))),(1,(1,(t 14))),(2,(1,(t 17))),(3,(1,(t 19))),(4,(1,(t 21)))]) false (.e (some 23) none (.box 122 (t 22)) [] (.q 12 (some 8) none (.mov (t 23)) false .done))))) (.e (some 21) none (.raw (o (.makeSlice 119 (t 20) (t 20)) 119)) [] (.e (some 19) none (.call 98 [t 18]) [] (.q 10 (some 22) none (.bld [.int .i64 0,.int .u64 0,.slice none 0 0,.slice none 0 0,.slice none 0 0,.pointer none] [(0,(1,(t 12))),(1,(1,(t 14))),(2,(1,(t 17))),(3,(1,(t 19))),(4,(1,(t 21)))]) false (.e (some 23) none (.box 122 (t 22)) [] (.q 12 (some 8) none (.mov (t 23)) false .done))))))) (.alt (.e (some 19) none (.call 98 [t 18]) [] (.alt (.e (some 17) none (.raw (o (.makeSlice 115 (t 16) (t 16)) 115)) [] (.e (some 21) none (.raw (o (.makeSlice 119 (t 20) (t 20)) 119)) [] (.q 10 (some 22) none (.bld [.int .i64 0,.int .u64 0,.slice none 0 0,.slice none 0 0,.slice none 0 0,.pointer none] [(0,(1,(t 12))),(1,(1,(t 14))),(2,(1,(t 17))),(3,(1,(t 19))),(4,(1,(t 21)))]) false (.e (some 23) none (.box 122 (t 22)) [] (.q 12 (some 8) none (.mov (t 23)) false .done))))) (.e (some 21) none (.raw (o (.makeSlice 119 (t 20) (t 20)) 119)) [] (.e (some 17) none (.raw (o (.makeSlice 115 (t 16) (t 16)) 115)) [] (.q 10 (some 22) none (.bld [.int .i64 0,.int .u64 0,.slice none 0 0,.slice none 0 0,.slice none 0 0,.pointer none] [(0,(1,(t 12))),(1,(1,(t 14))),(2,(1,(t 17))),(3,(1,(t 19))),(4,(1,(t 21)))]) false (.e (some 23) none (.box 122 (t 22)) [] (.q 12 (some 8) none (.mov (t 23)) false .done))))))) (.e (some 21) none (.raw (o (.makeSlice 119 (t 20) (t 20)) 119)) [] (.alt (.e (some 17) none (.raw (o (.makeSlice 115 (t 16) (t 16)) 115)) [] (.e (some 19) none (.call 98 [t 18]) [] (.q 10 (some 22) none (.bld [.int .i64 0,.int .u64 0,.slice none 0 0,.slice none 0 0,.slice none 0 0,.pointer none] [(0,(1,(t 12))),(1,(1,(t 14))),(2,(1,(t 17))),(3,(1,(t 19))),(4,(1,(t 21)))]) false (.e (some 23) none (.box 122 (t 22)) [] (.q 12 (some 8) none (.mov (t 23)) false .done))))) (.e (some 19) none (.call 98 [t 18]) [] (.e (some 17) none (.raw (o (.makeSlice 115 (t 16) (t 16)) 115)) [] (.q 10 (some 22) none (.bld [.int .i64 0,.int .u64 0,.slice none 0 0,.slice none 0 0,.slice none 0 0,.pointer none] [(0,(1,(t 12))),(1,(1,(t 14))),(2,(1,(t 17))),(3,(1,(t 19))),(4,(1,(t 21)))]) false (.e (some 23) none (.box 122 (t 22)) [] (.q 12 (some 8) none (.mov (t 23)) false .done)))))))))) (.alt (.e (some 17) none (.raw (o (.makeSlice 115 (t 16) (t 16)) 115)) [] (.alt (.e (some 14) none (.call 97 [t 13]) [] (.alt (.e (some 19) none (.call 98 [t 18]) [] (.e (some 21) none (.raw (o (.makeSlice 119 (t 20) (t 20)) 119)) [] (.q 10 (some 22) none (.bld [.int .i64 0,.int .u64 0,.slice none 0 0,.slice none 0 0,.slice none 0 0,.pointer none] [(0,(1,(t 12))),(1,(1,(t 14))),(2,(1,(t 17))),(3,(1,(t 19))),(4,(1,(t 21)))]) false (.e (some 23) none (.box 122 (t 22)) [] (.q 12 (some 8) none (.mov (t 23)) false .done))))) (.e (some 21) none (.raw (o (.makeSlice 119 (t 20) (t 20)) 119)) [] (.e (some 19) none (.call 98 [t 18]) [] (.q 10 (some 22) none (.bld [.int .i64 0,.int .u64 0,.slice none 0 0,.slice none 0 0,.slice none 0 0,.pointer none] [(0,(1,(t 12))),(1,(1,(t 14))),(2,(1,(t 17))),(3,(1,(t 19))),(4,(1,(t 21)))]) false (.e (some 23) none (.box 122 (t 22)) [] (.q 12 (some 8) none (.mov (t 23)) false .done))))))) (.e (some 21) none (.raw (o (.makeSlice 119 (t 20) (t 20)) 119)) [] (.e (some 14) none (.call 97 [t 13]) [] (.e (some 19) none (.call 98 [t 18]) [] (.q 10 (some 22) none (.bld [.int .i64 0,.int .u64 0,.slice none 0 0,.slice none 0 0,.slice none 0 0,.pointer none] [(0,(1,(t 12))),(1,(1,(t 14))),(2,(1,(t 17))),(3,(1,(t 19))),(4,(1,(t 21)))]) false (.e (some 23) none (.box 122 (t 22)) [] (.q 12 (some 8) none (.mov (t 23)) false .done)))))))) (.e (some 21) none (.raw (o (.makeSlice 119 (t 20) (t 20)) 119)) [] (.alt (.e (some 14) none (.call 97 [t 13]) [] (.alt (.e (some 17) none (.raw (o (.makeSlice 115 (t 16) (t 16)) 115)) [] (.e (some 19) none (.call 98 [t 18]) [] (.q 10 (some 22) none (.bld [.int .i64 0,.int .u64 0,.slice none 0 0,.slice none 0 0,.slice none 0 0,.pointer none] [(0,(1,(t 12))),(1,(1,(t 14))),(2,(1,(t 17))),(3,(1,(t 19))),(4,(1,(t 21)))]) false (.e (some 23) none (.box 122 (t 22)) [] (.q 12 (some 8) none (.mov (t 23)) false .done))))) (.e (some 19) none (.call 98 [t 18]) [] (.e (some 17) none (.raw (o (.makeSlice 115 (t 16) (t 16)) 115)) [] (.q 10 (some 22) none (.bld [.int .i64 0,.int .u64 0,.slice none 0 0,.slice none 0 0,.slice none 0 0,.pointer none] [(0,(1,(t 12))),(1,(1,(t 14))),(2,(1,(t 17))),(3,(1,(t 19))),(4,(1,(t 21)))]) false (.e (some 23) none (.box 122 (t 22)) [] (.q 12 (some 8) none (.mov (t 23)) false .done))))))) (.e (some 17) none (.raw (o (.makeSlice 115 (t 16) (t 16)) 115)) [] (.e (some 14) none (.call 97 [t 13]) [] (.e (some 19) none (.call 98 [t 18]) [] (.q 10 (some 22) none (.bld [.int .i64 0,.int .u64 0,.slice none 0 0,.slice none 0 0,.slice none 0 0,.pointer none] [(0,(1,(t 12))),(1,(1,(t 14))),(2,(1,(t 17))),(3,(1,(t 19))),(4,(1,(t 21)))]) false (.e (some 23) none (.box 122 (t 22)) [] (.q 12 (some 8) none (.mov (t 23)) false .done))))))))))))))))) (x [m 24 8,k 1 25 (.mov (t 8)),k 2 26 (.nilc (t 25)),k 3 27 (.fld (t 26) 2),r 4 28 (.ld (t 27)),k 5 29 (.mov (t 8)),k 6 30 (.nilc (t 29)),k 7 31 (.fld (t 30) 1),r 8 32 (.ld (t 31)),k 9 33 (.bld [.slice none 0 0,.int .u64 0,.slice none 0 0] [(0,(1,(t 28))),(1,(1,(t 32)))]),e 34 (.box 160 (t 33)) [8,4],k 11 35 (.nilc (t 24)),k 12 36 (.fld (t 35) 5),w (.st (t 36) (t 34)) []] (x [m 37 8,m 6 37] .ret)))))
theorem e_tumbrelref09_New:EOk 35 38 m_tumbrelref09_New Tryz.f35:=fun hn h =>
 enter Tryz.func35 (c:=(Tryz.f35.body.getD .skip)) rfl (by kernel_rfl) (Nat.le_of_ble_eq_true hn) h
def m_cycle_Cycle_in:MC:=(x [q 4 (.mov (.const (.bool false)))] (x [m 5 0,q 6 (.nilp true (t 5)),m 7 6,g 0 8 7 (.mov (t 1)),g 0 9 7 (.bin .geq (t 8) (i 0)),q 10 (.pick (t 7) (t 9) (.const (.bool false))),m 11 10,g 0 12 11 (.mov (t 1)),g 0 13 11 (.mov (t 0)),g 0 14 11 (.nilc (t 13)),g 0 15 11 (.fld (t 14) 1),h 0 16 11 (.ld (t 15)),g 0 17 11 (.len (t 16)),g 0 18 11 (.bin .lss (t 12) (t 17)),q 19 (.pick (t 11) (t 18) (.const (.bool false))),m 4 19] .ret))
theorem e_cycle_Cycle_in:EOk 36 20 m_cycle_Cycle_in Tryz.f36:=fun hn h =>
 enter Tryz.func36 (c:=(Tryz.f36.body.getD .skip)) rfl (by kernel_rfl) (Nat.le_of_ble_eq_true hn) h
def m_slices_Clone_int_int_:MC:=(x [q 2 (.mov (.const (.slice none 0 0)))] (s (x [m 3 0,r 0 4 (.raw (o (.binOp .eql 38 (t 3) (.const (.slice none 0 0)) 38) 4))] (.cond (t 4) (x [q 2 (.mov (.const (.slice none 0 0)))] .ret) .skip)) (x [e 5 (.bs0 3) [],m 6 0,e 7 (.raw (o (.call ⟨(.builtin .append),[t 5,t 6].toArray,[38,38].toArray⟩) 38)) [],m 2 7] .ret)))
theorem e_slices_Clone_int_int_:EOk 37 8 m_slices_Clone_int_int_ Tryz.f37:=fun hn h =>
 enter Tryz.func37 (c:=(Tryz.f37.body.getD .skip)) rfl (by kernel_rfl) (Nat.le_of_ble_eq_true hn) h
def m_cycle_Cycle_begin:MC:=(x [m 2 0,q 3 (.nilc (t 2)),q 4 (.fld (t 3) 0),l 5 4,e 6 (.call 57 [t 5]) []] (x [m 7 0,m 8 0,m 9 0,m 10 0,q 11 (.nilc (t 10)),q 12 (.fld (t 11) 0),l 13 12,e 14 (.call 99 [t 13]) [],q 15 (.nilc (t 7)),q 16 (.fld (t 15) 4),w (.st (t 16) (t 14)) [],q 17 (.nilc (t 8)),q 18 (.fld (t 17) 3),w (.st (t 18) (i 0)) [],q 19 (.nilc (t 9)),q 20 (.fld (t 19) 2),w (.st (t 20) (i 2)) []] (x [m 21 0,q 22 (.nilc (t 21)),q 23 (.fld (t 22) 1),l 24 23,q 25 (.len (t 24)),q 26 (.bin .eql (t 25) (i 0))] (.cond (t 26) (.reg [m 27 0,q 28 (.nilc (t 27)),q 29 (.fld (t 28) 2),w (.st (t 29) (i 3)) []]) .skip))))
theorem e_cycle_Cycle_begin:EOk 38 30 m_cycle_Cycle_begin Tryz.f38:=fun hn h =>
 enter Tryz.func38 (c:=(Tryz.f38.body.getD .skip)) rfl (by kernel_rfl) (Nat.le_of_ble_eq_true hn) h
def m_cycle_Cycle_root:MC:=(s (x [m 4 0,k 1 5 (.nilc (t 4)),k 2 6 (.fld (t 5) 1),r 3 7 (.ld (t 6)),k 4 8 (.mov (t 0)),k 5 9 (.nilc (t 8)),k 6 10 (.fld (t 9) 3),r 7 11 (.ld (t 10)),k 8 12 (.idx (t 7) (t 11) 2),k 9 13 (.fld (t 12) 1),r 10 14 (.ld (t 13)),k 11 15 (.len (t 14)),k 12 16 (.mov (i 0))] (.block 0 (.loop (x [q 17 (.bin .lss (t 16) (t 15))] (s (.cond (t 17) .skip (.exit 0)) (s (.block 1 (x [q 18 (.idx (t 14) (t 16) 1),l 19 18,m 3 19] (.reg [m 20 0,q 21 (.nilc (t 20)),q 22 (.fld (t 21) 4),l 23 22,m 24 3,e 25 (.call 100 [t 23,t 24]) []]))) (.reg [q 26 (.bin .add (t 16) (i 1)),m 16 26]))))))) (x [m 27 0,q 28 (.nilc (t 27)),q 29 (.fld (t 28) 3),l 30 29,q 31 (.bin .add (t 30) (i 1)),q 32 (.nilc (t 27)),q 33 (.fld (t 32) 3),w (.st (t 33) (t 31)) []] (x [m 34 0,k 1 35 (.nilc (t 34)),k 2 36 (.fld (t 35) 3),r 3 37 (.ld (t 36)),k 4 38 (.mov (t 0)),k 5 39 (.nilc (t 38)),k 6 40 (.fld (t 39) 1),r 7 41 (.ld (t 40)),k 8 42 (.len (t 41)),k 9 43 (.bin .eql (t 37) (t 42))] (.cond (t 43) (.reg [m 44 0,q 45 (.nilc (t 44)),q 46 (.fld (t 45) 2),w (.st (t 46) (i 3)) []]) .skip))))
theorem e_cycle_Cycle_root:EOk 39 47 m_cycle_Cycle_root Tryz.f39:=fun hn h =>
 enter Tryz.func39 (c:=(Tryz.f39.body.getD .skip)) rfl (by kernel_rfl) (Nat.le_of_ble_eq_true hn) h
def m_cycle_Cycle_look:MC:=(s (x [m 2 0,q 3 (.nilc (t 2)),q 4 (.fld (t 3) 4),l 5 4,e 6 (.call 101 [t 5]) [],q 7 (.bin .gtr (t 6) (i 0))] (.cond (t 7) (x [m 8 0,q 9 (.nilc (t 8)),q 10 (.fld (t 9) 4),l 11 10,e 12 (.call 102 [t 11]) []] .ret) .skip)) (.reg [m 13 0,m 14 0,m 15 0,q 16 (.nilc (t 15)),q 17 (.fld (t 16) 0),l 18 17,e 19 (.call 103 [t 18]) [],q 20 (.nilc (t 13)),q 21 (.fld (t 20) 5),w (.st (t 21) (t 19)) [],q 22 (.nilc (t 14)),q 23 (.fld (t 22) 2),w (.st (t 23) (i 4)) []]))
theorem e_cycle_Cycle_look:EOk 40 24 m_cycle_Cycle_look Tryz.f40:=fun hn h =>
 enter Tryz.func40 (c:=(Tryz.f40.body.getD .skip)) rfl (by kernel_rfl) (Nat.le_of_ble_eq_true hn) h
def m_cycle_Cycle_clean:MC:=(s (x [m 2 0,q 3 (.nilc (t 2)),q 4 (.fld (t 3) 5),l 5 4,e 6 (.call 104 [t 5]) [],q 7 (.bin .gtr (t 6) (i 0))] (.cond (t 7) (x [m 8 0,q 9 (.nilc (t 8)),q 10 (.fld (t 9) 5),l 11 10,e 12 (.call 105 [t 11]) []] .ret) .skip)) (x [m 13 0,q 14 (.nilc (t 13)),q 15 (.fld (t 14) 2),w (.st (t 15) (i 0)) []] (x [m 16 0,q 17 (.nilc (t 16)),q 18 (.fld (t 17) 6),l 19 18,q 20 (.bin .add (t 19) (i 1)),q 21 (.nilc (t 16)),q 22 (.fld (t 21) 6),w (.st (t 22) (t 20)) []] (x [m 23 0,m 24 0,q 25 (.nilc (t 24)),q 26 (.fld (t 25) 5),l 27 26,e 28 (.call 106 [t 27]) [],q 29 (.nilc (t 23)),q 30 (.fld (t 29) 7),w (.st (t 30) (t 28)) []] (.reg [m 31 0,q 32 (.nilc (t 31)),q 33 (.fld (t 32) 1),l 34 33,w (.raw (o (.call ⟨(.builtin .clear),[t 34].toArray,[80].toArray⟩) 0)) []])))))
theorem e_cycle_Cycle_clean:EOk 41 35 m_cycle_Cycle_clean Tryz.f41:=fun hn h =>
 enter Tryz.func41 (c:=(Tryz.f41.body.getD .skip)) rfl (by kernel_rfl) (Nat.le_of_ble_eq_true hn) h
def m_tumbrelref18_Heap_Unmark:MC:=(x [q 2 (.mov (i 0))] (x [q 3 (.mov (i 0))] (x [q 4 (.mov (.const (.slice none 0 0)))] (s (x [m 7 0,q 8 (.nilc (t 7)),q 9 (.fld (t 8) 1),l 10 9,q 11 (.len (t 10)),q 12 (.mov (i 0))] (.block 0 (.loop (x [q 13 (.bin .lss (t 12) (t 11))] (s (.cond (t 13) .skip (.exit 0)) (s (.block 1 (x [q 14 (.idx (t 10) (t 12) 2),r 0 15 (.ldn (t 14) 2),e 6 (.new 66 [.int .i64 0,.bool false]) [],w (.stn (t 6) (t 15) 2) []] (s (x [q 16 (.fld (t 6) 1),l 17 16] (.cond (t 17) (.reg [m 18 3,q 19 (.bin .add (t 18) (i 1)),m 3 19]) .skip)) (.reg [m 20 4,q 21 (.fld (t 6) 0),l 22 21,q 23 (.bld [.int .i64 0,.bool false] [(0,(1,(t 22)))]),e 24 (.bs1 66 2 (t 23)) [],e 25 (.raw (o (.call ⟨(.builtin .append),[t 20,t 24].toArray,[61,61].toArray⟩) 61)) [],m 4 25])))) (.reg [q 26 (.bin .add (t 12) (i 1)),m 12 26]))))))) (x [m 27 0,m 28 4,q 29 (.nilc (t 27)),q 30 (.fld (t 29) 1),w (.st (t 30) (t 28)) []] (x [m 31 3,m 2 31] .ret))))))
theorem e_tumbrelref18_Heap_Unmark:EOk 42 32 m_tumbrelref18_Heap_Unmark Tryz.f42:=fun hn h =>
 enter Tryz.func42 (c:=(Tryz.f42.body.getD .skip)) rfl (by kernel_rfl) (Nat.le_of_ble_eq_true hn) h
def m_tumbrelref19_Marker_Root:MC:=(x [q 4 (.mov (i 0))] (s (x [m 5 1,q 6 (.bin .lss (t 5) (i 0))] (.cond (t 6) (x [q 4 (.mov (i 0))] .ret) .skip)) (s (x [m 7 0,q 8 (.nilc (t 7)),q 9 (.fld (t 8) 0),l 10 9,m 11 1,e 12 (.call 60 [t 10,t 11]) [],q 13 (.bin .lss (t 12) (i 0))] (.cond (t 13) (x [q 4 (.mov (i 6))] .ret) .skip)) (x [m 14 0,m 15 1,e 16 (.call 107 [t 14,t 15]) []] (x [q 4 (.mov (i 0))] .ret)))))
theorem e_tumbrelref19_Marker_Root:EOk 43 17 m_tumbrelref19_Marker_Root Tryz.f43:=fun hn h =>
 enter Tryz.func43 (c:=(Tryz.f43.body.getD .skip)) rfl (by kernel_rfl) (Nat.le_of_ble_eq_true hn) h
def m_tumbrelref19_Marker_Step:MC:=(x [q 2 (.mov (.const (.bool false)))] (s (x [m 6 0,q 7 (.nilc (t 6)),q 8 (.fld (t 7) 1),l 9 8,q 10 (.len (t 9)),q 11 (.bin .eql (t 10) (i 0))] (.cond (t 11) (x [q 2 (.mov (.const (.bool false)))] .ret) .skip)) (x [m 12 0,k 1 13 (.nilc (t 12)),k 2 14 (.fld (t 13) 1),r 3 15 (.ld (t 14)),k 4 16 (.mov (t 0)),k 5 17 (.nilc (t 16)),k 6 18 (.fld (t 17) 1),r 7 19 (.ld (t 18)),k 8 20 (.len (t 19)),k 9 21 (.bin .sub (t 20) (i 1)),k 10 22 (.idx (t 15) (t 21) 1),r 11 23 (.ld (t 22)),k 12 3 (.mov (t 23))] (x [m 24 0,k 2 26 (.mov (t 0)),k 3 27 (.nilc (t 26)),k 4 28 (.fld (t 27) 1),r 5 29 (.ld (t 28)),k 6 30 (.mov (t 0)),k 7 31 (.nilc (t 30)),k 8 32 (.fld (t 31) 1),r 9 33 (.ld (t 32)),k 10 34 (.len (t 33)),k 11 35 (.bin .sub (t 34) (i 1)),k 12 36 (.slc (t 29) none (some (t 35)) 1),e 25 (.bs0 3) [9,5],e 37 (.raw (o (.call ⟨(.builtin .append),[t 25,t 36].toArray,[38,38].toArray⟩) 38)) [9,5],k 14 38 (.nilc (t 24)),k 15 39 (.fld (t 38) 1),w (.st (t 39) (t 37)) []] (x [m 40 0,q 41 (.nilc (t 40)),q 42 (.fld (t 41) 2),l 43 42,q 44 (.bin .add (t 43) (i 1)),q 45 (.nilc (t 40)),q 46 (.fld (t 45) 2),w (.st (t 46) (t 44)) []] (s (x [m 47 0,q 48 (.nilc (t 47)),q 49 (.fld (t 48) 0),l 50 49,m 51 3,e 52 (.call 29 [t 50,t 51]) [],q 53 (.len (t 52)),q 54 (.mov (i 0))] (.block 0 (.loop (x [q 55 (.bin .lss (t 54) (t 53))] (s (.cond (t 55) .skip (.exit 0)) (s (.block 1 (x [q 56 (.idx (t 52) (t 54) 1),l 57 56,m 5 57] (.reg [m 58 0,m 59 5,e 60 (.call 107 [t 58,t 59]) []]))) (.reg [q 61 (.bin .add (t 54) (i 1)),m 54 61]))))))) (x [m 62 0,q 63 (.nilc (t 62)),q 64 (.fld (t 63) 1),l 65 64,q 66 (.len (t 65)),q 67 (.bin .gtr (t 66) (i 0)),m 2 67] .ret)))))))
theorem e_tumbrelref19_Marker_Step:EOk 44 68 m_tumbrelref19_Marker_Step Tryz.f44:=fun hn h =>
 enter Tryz.func44 (c:=(Tryz.f44.body.getD .skip)) rfl (by kernel_rfl) (Nat.le_of_ble_eq_true hn) h
def m_tumbrelref20_New:MC:=(x [q 2 (.mov (.const (.pointer none)))] (x [m 5 0,q 6 (.bld [.pointer none,.slice none 0 0,.int .i64 0] [(0,(1,(t 5)))]),e 7 (.box 94 (t 6)) [],m 3 7] (s (x [m 8 0,q 9 (.nilc (t 8)),q 10 (.fld (t 9) 0),l 11 10,q 12 (.nilc (t 11)),q 13 (.fld (t 12) 3),l 14 13,q 15 (.len (t 14)),q 16 (.mov (i 0))] (.block 0 (.loop (x [q 17 (.bin .lss (t 16) (t 15))] (s (.cond (t 17) .skip (.exit 0)) (s (.block 1 (x [m 18 16,m 4 18] (x [m 19 0,m 20 4,e 21 (.call 79 [t 19,t 20]) []] (.cond (t 21) (.reg [m 22 3,m 23 3,q 24 (.nilc (t 23)),q 25 (.fld (t 24) 1),l 26 25,m 27 4,e 28 (.bs1 3 1 (t 27)) [],e 29 (.raw (o (.call ⟨(.builtin .append),[t 26,t 28].toArray,[38,38].toArray⟩) 38)) [],q 30 (.nilc (t 22)),q 31 (.fld (t 30) 1),w (.st (t 31) (t 29)) []]) .skip)))) (.reg [q 32 (.bin .add (t 16) (i 1)),m 16 32]))))))) (x [m 33 3,m 2 33] .ret))))
theorem e_tumbrelref20_New:EOk 45 34 m_tumbrelref20_New Tryz.f45:=fun hn h =>
 enter Tryz.func45 (c:=(Tryz.f45.body.getD .skip)) rfl (by kernel_rfl) (Nat.le_of_ble_eq_true hn) h
def m_tumbrelref20_Sweeper_Step:MC:=(x [q 2 (.mov (i 0)),q 3 (.mov (.const (.bool false)))] (s (x [m 7 0,q 8 (.nilc (t 7)),q 9 (.fld (t 8) 1),l 10 9,q 11 (.len (t 10)),q 12 (.bin .eql (t 11) (i 0))] (.cond (t 12) (x [q 2 (.mov (i 0)),q 3 (.mov (.const (.bool false)))] .ret) .skip)) (x [q 4 (.mov (i 0))] (s (x [m 13 0,k 1 14 (.nilc (t 13)),k 2 15 (.fld (t 14) 0),r 3 16 (.ld (t 15)),k 4 17 (.mov (t 0)),k 5 18 (.nilc (t 17)),k 6 19 (.fld (t 18) 1),r 7 20 (.ld (t 19)),k 8 21 (.idx (t 20) (i 0) 1),r 9 22 (.ld (t 21)),k 12 25 (.mov (i 0)),e 23 (.call 78 [t 16,t 22]) [7],k 11 24 (.len (t 23))] (.block 0 (.loop (x [q 26 (.bin .lss (t 25) (t 24))] (s (.cond (t 26) .skip (.exit 0)) (s (.block 1 (x [q 27 (.idx (t 23) (t 25) 1),l 28 27,m 6 28] (x [m 29 0,k 1 30 (.nilc (t 29)),k 2 31 (.fld (t 30) 0),r 3 32 (.ld (t 31)),k 4 33 (.nilc (t 32)),k 5 34 (.fld (t 33) 1),r 6 35 (.ld (t 34)),k 7 36 (.mov (t 0)),k 8 37 (.nilc (t 36)),k 9 38 (.fld (t 37) 0),r 10 39 (.ld (t 38)),k 11 40 (.mov (t 6)),e 41 (.call 60 [t 39,t 40]) [6,3],k 13 42 (.idx (t 35) (t 41) 2),k 14 43 (.fld (t 42) 1),r 15 44 (.ld (t 43)),k 16 45 (.un .not (t 44))] (.cond (t 45) (x [m 46 0,q 47 (.nilc (t 46)),q 48 (.fld (t 47) 0),l 49 48,m 50 6,e 51 (.call 54 [t 49,t 50]) []] (.reg [m 52 4,q 53 (.bin .add (t 52) (i 1)),m 4 53])) .skip)))) (.reg [q 54 (.bin .add (t 25) (i 1)),m 25 54]))))))) (x [m 55 0,k 1 56 (.nilc (t 55)),k 2 57 (.fld (t 56) 0),r 3 58 (.ld (t 57)),k 4 59 (.mov (t 0)),k 5 60 (.nilc (t 59)),k 6 61 (.fld (t 60) 1),r 7 62 (.ld (t 61)),k 8 63 (.idx (t 62) (i 0) 1),r 9 64 (.ld (t 63)),e 65 (.call 59 [t 58,t 64]) [7]] (x [m 66 0,m 67 0,q 68 (.nilc (t 67)),q 69 (.fld (t 68) 1),l 70 69,q 71 (.slc (t 70) (some (i 1)) none 1),q 72 (.nilc (t 66)),q 73 (.fld (t 72) 1),w (.st (t 73) (t 71)) []] (x [m 74 0,q 75 (.nilc (t 74)),q 76 (.fld (t 75) 2),l 77 76,m 78 4,q 79 (.bin .add (t 77) (t 78)),q 80 (.nilc (t 74)),q 81 (.fld (t 80) 2),w (.st (t 81) (t 79)) []] (s (x [m 82 0,q 83 (.nilc (t 82)),q 84 (.fld (t 83) 1),l 85 84,q 86 (.len (t 85)),q 87 (.bin .eql (t 86) (i 0))] (.cond (t 87) (.reg [m 88 0,q 89 (.nilc (t 88)),q 90 (.fld (t 89) 0),l 91 90,e 92 (.call 42 [t 91]) []]) .skip)) (x [m 93 4,k 1 94 (.mov (t 0)),k 2 95 (.nilc (t 94)),k 3 96 (.fld (t 95) 1),r 4 97 (.ld (t 96)),k 5 98 (.len (t 97)),k 6 99 (.bin .gtr (t 98) (i 0)),k 7 2 (.mov (t 93)),k 8 3 (.mov (t 99))] .ret)))))))))
theorem e_tumbrelref20_Sweeper_Step:EOk 46 100 m_tumbrelref20_Sweeper_Step Tryz.f46:=fun hn h =>
 enter Tryz.func46 (c:=(Tryz.f46.body.getD .skip)) rfl (by kernel_rfl) (Nat.le_of_ble_eq_true hn) h
def m_tumbrellaw18_Pair_at:MC:=(x [q 6 (.mov (i 0))] (s (x [m 7 1,q 8 (.bin .geq (t 7) (i 0)),m 9 8,g 0 10 9 (.mov (t 1)),g 0 11 9 (.mov (t 0)),g 0 12 9 (.nilc (t 11)),g 0 13 9 (.fld (t 12) 1),h 0 14 9 (.ld (t 13)),g 0 15 9 (.nilc (t 14)),g 0 16 9 (.fld (t 15) 1),h 0 17 9 (.ld (t 16)),g 0 18 9 (.len (t 17)),g 0 19 9 (.bin .lss (t 10) (t 18)),q 20 (.pick (t 9) (t 19) (.const (.bool false)))] (.cond (t 20) (x [m 21 0,q 22 (.nilc (t 21)),q 23 (.fld (t 22) 1),l 24 23,q 25 (.nilc (t 24)),q 26 (.fld (t 25) 1),l 27 26,m 28 1,q 29 (.idx (t 27) (t 28) 2),q 30 (.fld (t 29) 0),l 31 30,m 6 31] .ret) .skip)) (x [m 32 2,m 6 32] .ret)))
theorem e_tumbrellaw18_Pair_at:EOk 47 33 m_tumbrellaw18_Pair_at Tryz.f47:=fun hn h =>
 enter Tryz.func47 (c:=(Tryz.f47.body.getD .skip)) rfl (by kernel_rfl) (Nat.le_of_ble_eq_true hn) h
def m_gheap_Heap_Region:MC:=(x [q 2 (.mov (.const (.pointer none)))] (s (x [m 3 0,q 4 (.nilp false (t 3))] (.cond (t 4) (x [q 2 (.mov (.const (.pointer none)))] .ret) .skip)) (x [m 5 0,q 6 (.nilc (t 5)),q 7 (.fld (t 6) 0),l 8 7,m 2 8] .ret)))
theorem e_gheap_Heap_Region:EOk 48 9 m_gheap_Heap_Region Tryz.f48:=fun hn h =>
 enter Tryz.func48 (c:=(Tryz.f48.body.getD .skip)) rfl (by kernel_rfl) (Nat.le_of_ble_eq_true hn) h
def m_region_Region_Arena:MC:=(x [q 2 (.mov (.const (.pointer none)))] (s (x [m 3 0,q 4 (.nilp false (t 3))] (.cond (t 4) (x [q 2 (.mov (.const (.pointer none)))] .ret) .skip)) (x [m 5 0,q 6 (.nilc (t 5)),q 7 (.fld (t 6) 3),l 8 7,m 2 8] .ret)))
theorem e_region_Region_Arena:EOk 49 9 m_region_Region_Arena Tryz.f49:=fun hn h =>
 enter Tryz.func49 (c:=(Tryz.f49.body.getD .skip)) rfl (by kernel_rfl) (Nat.le_of_ble_eq_true hn) h
def m_gheap_Heap_Alloc:MC:=(x [e 3 (.box 103 (t 1)) [],q 4 (.mov (i 0)),q 5 (.mov (i 0))] (x [r 0 14 (.ldn (t 3) 2),e 15 (.call 108 [t 14]) [],m 13 15,q 16 (.ext (t 13) 0),q 17 (.ext (t 13) 1),m 6 16,m 7 17] (s (.block 0 (x [m 19 0,q 20 (.nilp false (t 19)),m 18 20] (.cond (t 18) (x [q 4 (.mov (i 0)),q 5 (.mov (i 2))] .ret) (x [m 22 7,q 23 (.un .not (t 22)),m 21 23] (.cond (t 21) (x [q 4 (.mov (i 0)),q 5 (.mov (i 1))] .ret) .skip))))) (x [m 25 0,m 26 6,e 27 (.call 109 [t 25,t 26]) [],m 24 27,q 28 (.ext (t 24) 0),q 29 (.ext (t 24) 1),m 8 28,m 9 29] (s (x [m 30 9,q 31 (.un .not (t 30))] (.cond (t 31) (x [m 33 0,k 1 34 (.nilc (t 33)),k 2 35 (.fld (t 34) 0),r 3 36 (.ld (t 35)),k 5 38 (.mov (t 0)),k 6 39 (.nilc (t 38)),k 7 40 (.fld (t 39) 1),r 8 41 (.ld (t 40)),k 9 42 (.mov (t 0)),k 10 43 (.nilc (t 42)),k 11 44 (.fld (t 43) 2),r 12 45 (.ld (t 44)),k 13 46 (.mov (t 6)),k 14 47 (.bld [.int .i64 0,.int .i64 0,.int .i64 0,.int .i64 0] [(0,(1,(i 4))),(1,(1,(t 46))),(3,(1,(i 1)))]),e 37 (.call 73 [t 36]) [12,8],e 48 (.call 110 [t 37,t 41,t 45,t 47]) [],k 16 32 (.mov (t 48)),k 17 49 (.ext (t 32) 0),k 18 50 (.ext (t 32) 1),k 19 10 (.mov (t 49)),k 20 11 (.mov (t 50))] (s (x [m 51 11,q 52 (.bin .neq (t 51) (i 0))] (.cond (t 52) (x [m 53 11,q 4 (.mov (i 0)),m 5 53] .ret) .skip)) (.reg [m 54 10,m 55 6,e 56 (.call 111 [t 54,t 55,i 0]) [],m 8 56]))) .skip)) (s (x [m 57 0,k 1 58 (.nilc (t 57)),k 2 59 (.fld (t 58) 0),r 3 60 (.ld (t 59)),k 5 62 (.mov (t 8)),r 6 63 (.ldn (t 3) 2),e 61 (.call 49 [t 60]) [6],e 64 (.call 112 [t 61,t 62,t 63]) [],k 8 12 (.mov (t 64))] (x [m 65 12,q 66 (.bin .neq (t 65) (i 0))] (.cond (t 66) (x [m 67 12,q 4 (.mov (i 0)),m 5 67] .ret) .skip))) (x [m 68 8,m 69 0,q 70 (.nilc (t 69)),q 71 (.fld (t 70) 3),l 72 71,m 73 8,q 74 (.bin .quo (t 73) (i 16)),e 75 (.call 113 [t 72,t 74,.const (.bool true)]) [],m 4 68,m 5 75] .ret)))))))
theorem e_gheap_Heap_Alloc:EOk 50 76 m_gheap_Heap_Alloc Tryz.f50:=fun hn h =>
 enter Tryz.func50 (c:=(Tryz.f50.body.getD .skip)) rfl (by kernel_rfl) (Nat.le_of_ble_eq_true hn) h
def m_tumbrellaw18_ours:MC:=(x [e 1 (.box 35 (t 0)) [],e 2 (.new 103 [.int .i64 0,.int .i64 0]) []] (x [q 3 (.fld (t 1) 0),l 4 3,q 5 (.fld (t 1) 1),l 6 5,q 7 (.bld [.int .i64 0,.int .i64 0] [(0,(1,(t 4))),(1,(1,(t 6)))]),w (.stn (t 2) (t 7) 2) []] .ret))
theorem e_tumbrellaw18_ours:EOk 51 8 m_tumbrellaw18_ours Tryz.f51:=fun hn h =>
 enter Tryz.func51 (c:=(Tryz.f51.body.getD .skip)) rfl (by kernel_rfl) (Nat.le_of_ble_eq_true hn) h
def m_tumbrelref18_Heap_Alloc:MC:=(x [e 3 (.box 35 (t 1)) [],q 4 (.mov (i 0)),q 5 (.mov (i 0))] (s (x [r 0 15 (.ldn (t 3) 2),e 16 (.call 114 [t 15]) [],q 17 (.bin .eql (t 16) (i 0))] (.cond (t 17) (x [q 4 (.mov (i 0)),q 5 (.mov (i 1))] .ret) .skip)) (x [m 19 0,r 0 20 (.ldn (t 3) 2),e 21 (.call 116 [t 20]) [],e 22 (.call 115 [t 19,t 21]) [],m 18 22,q 23 (.ext (t 18) 0),q 24 (.ext (t 18) 1),m 6 23,m 7 24] (s (x [m 25 6,q 26 (.bin .lss (t 25) (i 0))] (.cond (t 26) (x [q 4 (.mov (i 0)),q 5 (.mov (i 5))] .ret) .skip)) (s (x [m 27 7,q 28 (.bin .geq (t 27) (i 0))] (.cond (t 28) (.reg [m 29 0,k 1 30 (.nilc (t 29)),k 2 31 (.fld (t 30) 0),r 3 32 (.ld (t 31)),k 4 33 (.mov (t 0)),k 5 34 (.nilc (t 33)),k 6 35 (.fld (t 34) 0),r 7 36 (.ld (t 35)),k 8 37 (.nilc (t 36)),k 9 38 (.fld (t 37) 3),r 10 39 (.ld (t 38)),k 11 40 (.mov (t 7)),r 12 41 (.ldn (t 3) 2),e 42 (.call 116 [t 41]) [10,7,3],k 14 43 (.bld [.int .i64 0,.int .i64 0,.int .i64 0,.int .i64 0] [(0,(1,(i 4))),(1,(1,(t 42))),(3,(1,(i 1)))]),e 44 (.call 117 [t 39,t 40,t 43]) [7,3],k 16 45 (.nilc (t 32)),k 17 46 (.fld (t 45) 3),w (.st (t 46) (t 44)) []]) .skip)) (x [m 48 0,k 1 49 (.nilc (t 48)),k 2 50 (.fld (t 49) 0),r 3 51 (.ld (t 50)),k 4 52 (.nilc (t 51)),k 5 53 (.fld (t 52) 2),r 6 54 (.ld (t 53)),k 7 55 (.mov (t 6)),r 8 56 (.ldn (t 3) 2),e 57 (.call 118 [t 54,t 55,t 56]) [3],k 10 47 (.mov (t 57)),k 11 58 (.ext (t 47) 0),k 12 59 (.ext (t 47) 1),k 13 8 (.mov (t 58)),k 14 9 (.mov (t 59))] (x [m 60 0,q 61 (.nilc (t 60)),q 62 (.fld (t 61) 0),l 63 62,m 64 8,q 65 (.nilc (t 63)),q 66 (.fld (t 65) 2),w (.st (t 66) (t 64)) []] (x [q 10 (.mov (.const (.slice none 0 0)))] (s (x [m 67 0,q 68 (.nilc (t 67)),q 69 (.fld (t 68) 1),l 70 69,q 71 (.len (t 70)),q 72 (.mov (i 0))] (.block 0 (.loop (x [q 73 (.bin .lss (t 72) (t 71))] (s (.cond (t 73) .skip (.exit 0)) (s (.block 1 (x [q 74 (.idx (t 70) (t 72) 2),r 0 75 (.ldn (t 74) 2),e 12 (.new 66 [.int .i64 0,.bool false]) [],w (.stn (t 12) (t 75) 2) []] (x [q 76 (.fld (t 12) 0),l 77 76,m 78 6,q 79 (.bin .lss (t 77) (t 78))] (.cond (t 79) (.reg [m 80 10,r 0 81 (.ldn (t 12) 2),e 82 (.bs1 66 2 (t 81)) [],e 83 (.raw (o (.call ⟨(.builtin .append),[t 80,t 82].toArray,[61,61].toArray⟩) 61)) [],m 10 83]) .skip)))) (.reg [q 84 (.bin .add (t 72) (i 1)),m 72 84]))))))) (x [m 85 10,m 86 6,q 87 (.bld [.int .i64 0,.bool false] [(0,(1,(t 86)))]),e 88 (.bs1 66 2 (t 87)) [],e 89 (.raw (o (.call ⟨(.builtin .append),[t 85,t 88].toArray,[61,61].toArray⟩) 61)) [],m 10 89] (s (x [m 90 0,q 91 (.nilc (t 90)),q 92 (.fld (t 91) 1),l 93 92,q 94 (.len (t 93)),q 95 (.mov (i 0))] (.block 2 (.loop (x [q 96 (.bin .lss (t 95) (t 94))] (s (.cond (t 96) .skip (.exit 2)) (s (.block 3 (x [q 97 (.idx (t 93) (t 95) 2),r 0 98 (.ldn (t 97) 2),e 14 (.new 66 [.int .i64 0,.bool false]) [],w (.stn (t 14) (t 98) 2) []] (x [q 99 (.fld (t 14) 0),l 100 99,m 101 6,q 102 (.bin .gtr (t 100) (t 101))] (.cond (t 102) (.reg [m 103 10,r 0 104 (.ldn (t 14) 2),e 105 (.bs1 66 2 (t 104)) [],e 106 (.raw (o (.call ⟨(.builtin .append),[t 103,t 105].toArray,[61,61].toArray⟩) 61)) [],m 10 106]) .skip)))) (.reg [q 107 (.bin .add (t 95) (i 1)),m 95 107]))))))) (x [m 108 0,m 109 10,q 110 (.nilc (t 108)),q 111 (.fld (t 110) 1),w (.st (t 111) (t 109)) []] (x [m 112 6,m 113 9,m 4 112,m 5 113] .ret)))))))))))))
theorem e_tumbrelref18_Heap_Alloc:EOk 52 114 m_tumbrelref18_Heap_Alloc Tryz.f52:=fun hn h =>
 enter Tryz.func52 (c:=(Tryz.f52.body.getD .skip)) rfl (by kernel_rfl) (Nat.le_of_ble_eq_true hn) h
def m_gheap_Heap_Free:MC:=(x [q 4 (.mov (i 0))] (s (.block 0 (x [m 6 0,q 7 (.nilp false (t 6)),m 5 7] (.cond (t 5) (x [q 4 (.mov (i 2))] .ret) (x [m 9 0,m 10 1,e 11 (.call 75 [t 9,t 10]) [],q 12 (.un .not (t 11)),m 8 12] (.cond (t 8) (x [q 4 (.mov (i 6))] .ret) .skip))))) (x [m 13 0,q 14 (.nilc (t 13)),q 15 (.fld (t 14) 3),l 16 15,m 17 1,q 18 (.bin .quo (t 17) (i 16)),e 19 (.call 113 [t 16,t 18,.const (.bool false)]) []] (x [m 20 0,q 21 (.nilc (t 20)),q 22 (.fld (t 21) 4),l 23 22,m 24 1,q 25 (.bin .quo (t 24) (i 16)),e 26 (.call 113 [t 23,t 25,.const (.bool false)]) []] (x [m 27 0,q 28 (.nilc (t 27)),q 29 (.fld (t 28) 0),l 30 29,e 31 (.call 49 [t 30]) [],m 32 1,m 33 0,m 34 1,q 35 (.bin .quo (t 34) (i 256)),e 36 (.call 121 [t 33,t 35]) [],q 37 (.fldv (t 36) 1),e 38 (.call 120 [t 37]) [],e 39 (.call 119 [t 31,t 32,t 38,.const (.int .u8 221)]) [],m 4 39] .ret)))))
theorem e_gheap_Heap_Free:EOk 53 40 m_gheap_Heap_Free Tryz.f53:=fun hn h =>
 enter Tryz.func53 (c:=(Tryz.f53.body.getD .skip)) rfl (by kernel_rfl) (Nat.le_of_ble_eq_true hn) h
def m_tumbrelref18_Heap_Free:MC:=(x [q 4 (.mov (i 0))] (x [m 8 0,m 9 1,e 10 (.call 60 [t 8,t 9]) [],m 5 10] (s (x [m 11 5,q 12 (.bin .lss (t 11) (i 0))] (.cond (t 12) (x [q 4 (.mov (i 6))] .ret) .skip)) (x [m 13 0,k 2 15 (.mov (t 0)),k 3 16 (.nilc (t 15)),k 4 17 (.fld (t 16) 1),r 5 18 (.ld (t 17)),k 6 19 (.mov (t 5)),k 7 20 (.slc (t 18) none (some (t 19)) 2),k 9 22 (.mov (t 0)),k 10 23 (.nilc (t 22)),k 11 24 (.fld (t 23) 1),r 12 25 (.ld (t 24)),k 13 26 (.mov (t 5)),k 14 27 (.bin .add (t 26) (i 1)),k 15 28 (.slc (t 25) (some (t 27)) none 2),e 14 (.bs0 66) [12,5],e 21 (.raw (o (.call ⟨(.builtin .append),[t 14,t 20].toArray,[61,61].toArray⟩) 61)) [12,5],e 29 (.raw (o (.call ⟨(.builtin .append),[t 21,t 28].toArray,[61,61].toArray⟩) 61)) [12,5],k 17 30 (.nilc (t 13)),k 18 31 (.fld (t 30) 1),w (.st (t 31) (t 29)) []] (x [e 32 (.bs0 5) [],m 33 0,q 34 (.nilc (t 33)),q 35 (.fld (t 34) 0),l 36 35,q 37 (.nilc (t 36)),q 38 (.fld (t 37) 2),l 39 38,e 40 (.raw (o (.call ⟨(.builtin .append),[t 32,t 39].toArray,[115,115].toArray⟩) 115)) [],m 6 40] (s (x [q 7 (.mov (i 0))] (.block 0 (.loop (s (x [m 41 7,m 42 0,q 43 (.nilc (t 42)),q 44 (.fld (t 43) 0),l 45 44,q 46 (.nilc (t 45)),q 47 (.fld (t 46) 3),l 48 47,m 49 1,q 50 (.bin .quo (t 49) (i 256)),q 51 (.idx (t 48) (t 50) 4),q 52 (.fld (t 51) 1),l 53 52,e 54 (.call 122 [t 53]) [],q 55 (.bin .lss (t 41) (t 54))] (.cond (t 55) .skip (.exit 0))) (s (.block 1 (.reg [m 58 6,m 59 1,m 60 7,q 61 (.bin .add (t 59) (t 60)),q 62 (.idx (t 58) (t 61) 1),w (.st (t 62) (.const (.int .u8 221))) []])) (.reg [m 56 7,q 57 (.bin .add (t 56) (i 1)),m 7 57])))))) (x [m 63 0,q 64 (.nilc (t 63)),q 65 (.fld (t 64) 0),l 66 65,m 67 6,q 68 (.nilc (t 66)),q 69 (.fld (t 68) 2),w (.st (t 69) (t 67)) []] (x [q 4 (.mov (i 0))] .ret))))))))
theorem e_tumbrelref18_Heap_Free:EOk 54 70 m_tumbrelref18_Heap_Free Tryz.f54:=fun hn h =>
 enter Tryz.func54 (c:=(Tryz.f54.body.getD .skip)) rfl (by kernel_rfl) (Nat.le_of_ble_eq_true hn) h
def m_gheap_Heap_Mark:MC:=(x [q 4 (.mov (.const (.bool false)))] (s (x [m 5 0,m 6 1,e 7 (.call 75 [t 5,t 6]) [],q 8 (.un .not (t 7)),m 9 8,n 0 10 9 (.mov (t 0)),n 0 11 9 (.mov (t 1)),.e (some 12) (some (9,false)) (.call 76 [t 10,t 11]) [],q 13 (.pick (t 9) (.const (.bool true)) (t 12))] (.cond (t 13) (x [q 4 (.mov (.const (.bool false)))] .ret) .skip)) (x [m 14 0,q 15 (.nilc (t 14)),q 16 (.fld (t 15) 4),l 17 16,m 18 1,q 19 (.bin .quo (t 18) (i 16)),e 20 (.call 113 [t 17,t 19,.const (.bool true)]) []] (x [q 4 (.mov (.const (.bool true)))] .ret))))
theorem e_gheap_Heap_Mark:EOk 55 21 m_gheap_Heap_Mark Tryz.f55:=fun hn h =>
 enter Tryz.func55 (c:=(Tryz.f55.body.getD .skip)) rfl (by kernel_rfl) (Nat.le_of_ble_eq_true hn) h
def m_tumbrelref18_Heap_Mark:MC:=(x [q 4 (.mov (.const (.bool false)))] (x [m 7 0,m 8 1,e 9 (.call 60 [t 7,t 8]) [],m 5 9] (s (x [m 10 5,q 11 (.bin .lss (t 10) (i 0)),m 12 11,n 0 13 12 (.mov (t 0)),n 0 14 12 (.nilc (t 13)),n 0 15 12 (.fld (t 14) 1),p 0 16 12 (.ld (t 15)),n 0 17 12 (.mov (t 5)),n 0 18 12 (.idx (t 16) (t 17) 2),n 0 19 12 (.fld (t 18) 1),p 0 20 12 (.ld (t 19)),q 21 (.pick (t 12) (.const (.bool true)) (t 20))] (.cond (t 21) (x [q 4 (.mov (.const (.bool false)))] .ret) .skip)) (x [e 22 (.bs0 66) [],m 23 0,q 24 (.nilc (t 23)),q 25 (.fld (t 24) 1),l 26 25,e 27 (.raw (o (.call ⟨(.builtin .append),[t 22,t 26].toArray,[61,61].toArray⟩) 61)) [],m 6 27] (x [m 28 6,m 29 5,q 30 (.idx (t 28) (t 29) 2),q 31 (.fld (t 30) 1),w (.st (t 31) (.const (.bool true))) []] (x [m 32 0,m 33 6,q 34 (.nilc (t 32)),q 35 (.fld (t 34) 1),w (.st (t 35) (t 33)) []] (x [q 4 (.mov (.const (.bool true)))] .ret)))))))
theorem e_tumbrelref18_Heap_Mark:EOk 56 36 m_tumbrelref18_Heap_Mark Tryz.f56:=fun hn h =>
 enter Tryz.func56 (c:=(Tryz.f56.body.getD .skip)) rfl (by kernel_rfl) (Nat.le_of_ble_eq_true hn) h
def m_gheap_Heap_Unmark:MC:=(x [q 2 (.mov (i 0))] (s (x [m 4 0,q 5 (.nilp false (t 4))] (.cond (t 5) (x [q 2 (.mov (i 0))] .ret) .skip)) (x [m 6 0,q 7 (.nilc (t 6)),q 8 (.fld (t 7) 4),l 9 8,e 10 (.call 123 [t 9]) [],m 3 10] (x [m 11 0,m 12 0,q 13 (.nilc (t 12)),q 14 (.fld (t 13) 4),l 15 14,e 16 (.call 124 [t 15]) [],e 17 (.call 96 [t 16]) [],q 18 (.nilc (t 11)),q 19 (.fld (t 18) 4),w (.st (t 19) (t 17)) []] (x [m 20 3,m 2 20] .ret)))))
theorem e_gheap_Heap_Unmark:EOk 57 21 m_gheap_Heap_Unmark Tryz.f57:=fun hn h =>
 enter Tryz.func57 (c:=(Tryz.f57.body.getD .skip)) rfl (by kernel_rfl) (Nat.le_of_ble_eq_true hn) h
def m_gheap_Heap_Tidy:MC:=(x [q 4 (.mov (i 0))] (s (.block 0 (x [m 6 0,q 7 (.nilp false (t 6)),m 5 7] (.cond (t 5) (x [q 4 (.mov (i 2))] .ret) (x [m 9 0,m 10 1,e 11 (.call 125 [t 9,t 10]) [],q 12 (.un .not (t 11)),m 8 12] (.cond (t 8) (x [q 4 (.mov (i 6))] .ret) (x [m 14 0,m 15 1,e 16 (.call 77 [t 14,t 15]) [],q 17 (.len (t 16)),q 18 (.bin .gtr (t 17) (i 0)),m 13 18] (.cond (t 13) (x [q 4 (.mov (i 8))] .ret) .skip))))))) (x [m 19 0,q 20 (.nilc (t 19)),q 21 (.fld (t 20) 0),l 22 21,e 23 (.call 73 [t 22]) [],m 24 1,e 25 (.call 126 [t 23,t 24]) [],m 4 25] .ret)))
theorem e_gheap_Heap_Tidy:EOk 58 26 m_gheap_Heap_Tidy Tryz.f58:=fun hn h =>
 enter Tryz.func58 (c:=(Tryz.f58.body.getD .skip)) rfl (by kernel_rfl) (Nat.le_of_ble_eq_true hn) h
def m_tumbrelref18_Heap_Tidy:MC:=(x [q 4 (.mov (i 0))] (s (x [m 5 0,m 6 1,e 7 (.call 79 [t 5,t 6]) [],q 8 (.un .not (t 7))] (.cond (t 8) (x [q 4 (.mov (i 6))] .ret) .skip)) (s (x [m 9 0,m 10 1,e 11 (.call 78 [t 9,t 10]) [],q 12 (.len (t 11)),q 13 (.bin .gtr (t 12) (i 0))] (.cond (t 13) (x [q 4 (.mov (i 8))] .ret) .skip)) (x [m 14 0,k 1 15 (.nilc (t 14)),k 2 16 (.fld (t 15) 0),r 3 17 (.ld (t 16)),k 4 18 (.mov (t 0)),k 5 19 (.nilc (t 18)),k 6 20 (.fld (t 19) 0),r 7 21 (.ld (t 20)),k 8 22 (.nilc (t 21)),k 9 23 (.fld (t 22) 3),r 10 24 (.ld (t 23)),k 11 25 (.mov (t 1)),e 26 (.call 127 [t 24,t 25]) [7,3],k 13 27 (.nilc (t 17)),k 14 28 (.fld (t 27) 3),w (.st (t 28) (t 26)) []] (x [q 4 (.mov (i 0))] .ret)))))
theorem e_tumbrelref18_Heap_Tidy:EOk 59 29 m_tumbrelref18_Heap_Tidy Tryz.f59:=fun hn h =>
 enter Tryz.func59 (c:=(Tryz.f59.body.getD .skip)) rfl (by kernel_rfl) (Nat.le_of_ble_eq_true hn) h
def m_tumbrelref18_Heap_Index:MC:=(x [q 4 (.mov (i 0))] (s (x [m 7 0,q 8 (.nilc (t 7)),q 9 (.fld (t 8) 1),l 10 9,q 11 (.len (t 10)),q 12 (.mov (i 0))] (.block 0 (.loop (x [q 13 (.bin .lss (t 12) (t 11))] (s (.cond (t 13) .skip (.exit 0)) (s (.block 1 (x [m 14 12,q 15 (.idx (t 10) (t 12) 2),r 0 16 (.ldn (t 15) 2),e 6 (.new 66 [.int .i64 0,.bool false]) [],m 5 14,w (.stn (t 6) (t 16) 2) []] (x [q 17 (.fld (t 6) 0),l 18 17,m 19 1,q 20 (.bin .eql (t 18) (t 19))] (.cond (t 20) (x [m 21 5,m 4 21] .ret) .skip)))) (.reg [q 22 (.bin .add (t 12) (i 1)),m 12 22]))))))) (x [q 4 (.mov (i (-1)))] .ret)))
theorem e_tumbrelref18_Heap_Index:EOk 60 23 m_tumbrelref18_Heap_Index Tryz.f60:=fun hn h =>
 enter Tryz.func60 (c:=(Tryz.f60.body.getD .skip)) rfl (by kernel_rfl) (Nat.le_of_ble_eq_true hn) h
def m_object_SetRef:MC:=(x [q 8 (.mov (i 0))] (x [m 12 0,m 13 1,m 14 2,e 15 (.call 128 [t 12,t 13,t 14]) [],m 11 15,q 16 (.ext (t 11) 0),q 17 (.ext (t 11) 1),m 9 16,m 10 17] (s (.block 0 (x [m 19 10,q 20 (.bin .neq (t 19) (i 0)),m 18 20] (.cond (t 18) (x [m 21 10,m 8 21] .ret) (x [m 23 3,q 24 (.bin .lss (t 23) (i (-1))),m 25 24,n 0 26 25 (.mov (t 3)),n 0 27 25 (.bin .gtr (t 26) (i 2147483647)),q 28 (.pick (t 25) (.const (.bool true)) (t 27)),m 22 28] (.cond (t 22) (x [q 8 (.mov (i 1))] .ret) .skip))))) (x [m 29 0,m 30 9,m 31 3,q 32 (.bin .add (t 31) (i 1)),q 33 (.cvi .u64 (t 32)),e 34 (.call 66 [t 29,t 30,t 33]) [],m 8 34] .ret))))
theorem e_object_SetRef:EOk 61 35 m_object_SetRef Tryz.f61:=fun hn h =>
 enter Tryz.func61 (c:=(Tryz.f61.body.getD .skip)) rfl (by kernel_rfl) (Nat.le_of_ble_eq_true hn) h
def m_object_SetNum:MC:=(x [q 8 (.mov (i 0))] (x [m 12 0,m 13 1,m 14 2,e 15 (.call 129 [t 12,t 13,t 14]) [],m 11 15,q 16 (.ext (t 11) 0),q 17 (.ext (t 11) 1),m 9 16,m 10 17] (s (x [m 18 10,q 19 (.bin .neq (t 18) (i 0))] (.cond (t 19) (x [m 20 10,m 8 20] .ret) .skip)) (x [m 21 0,m 22 9,m 23 3,e 24 (.call 66 [t 21,t 22,t 23]) [],m 8 24] .ret))))
theorem e_object_SetNum:EOk 62 25 m_object_SetNum Tryz.f62:=fun hn h =>
 enter Tryz.func62 (c:=(Tryz.f62.body.getD .skip)) rfl (by kernel_rfl) (Nat.le_of_ble_eq_true hn) h
def m_tumbrellaw18_Pair_bytes:MC:=(x [m 5 0,k 1 6 (.nilc (t 5)),k 2 7 (.fld (t 6) 0),r 3 8 (.ld (t 7)),k 6 11 (.mov (t 0)),k 7 12 (.nilc (t 11)),k 8 13 (.fld (t 12) 1),r 9 14 (.ld (t 13)),k 10 15 (.nilc (t 14)),k 11 16 (.fld (t 15) 0),r 12 17 (.ld (t 16)),k 13 18 (.nilc (t 17)),k 14 19 (.fld (t 18) 2),r 15 20 (.ld (t 19)),k 16 21 (.len (t 20)),e 9 (.call 48 [t 8]) [15,12,9],e 10 (.call 49 [t 9]) [15,12,9],e 22 (.call 71 [t 10,i 0,t 21]) [15,12,9],k 18 4 (.mov (t 22)),k 19 23 (.ext (t 4) 0),k 20 24 (.ext (t 4) 1),k 21 2 (.mov (t 23)),k 22 3 (.mov (t 24))] (.reg [m 25 0,q 26 (.nilc (t 25)),q 27 (.fld (t 26) 1),l 28 27,q 29 (.nilc (t 28)),q 30 (.fld (t 29) 0),l 31 30,m 32 2,q 33 (.nilc (t 31)),q 34 (.fld (t 33) 2),w (.st (t 34) (t 32)) []]))
theorem e_tumbrellaw18_Pair_bytes:EOk 63 35 m_tumbrellaw18_Pair_bytes Tryz.f63:=fun hn h =>
 enter Tryz.func63 (c:=(Tryz.f63.body.getD .skip)) rfl (by kernel_rfl) (Nat.le_of_ble_eq_true hn) h
def m_region_Region_Great:MC:=(x [q 4 (.mov (i 0)),q 5 (.mov (i 0))] (s (x [m 10 0,q 11 (.nilp false (t 10))] (.cond (t 11) (x [q 4 (.mov (i 0)),q 5 (.mov (i 2))] .ret) .skip)) (x [m 13 1,e 14 (.call 130 [t 13]) [],m 12 14,q 15 (.ext (t 12) 0),q 16 (.ext (t 12) 1),m 6 15,m 7 16] (s (x [m 17 7,q 18 (.un .not (t 17))] (.cond (t 18) (x [q 4 (.mov (i 0)),q 5 (.mov (i 1))] .ret) .skip)) (x [m 20 0,k 1 21 (.nilc (t 20)),k 2 22 (.fld (t 21) 4),r 3 23 (.ld (t 22)),k 4 24 (.mov (t 0)),k 5 25 (.nilc (t 24)),k 6 26 (.fld (t 25) 0),k 7 27 (.fld (t 26) 0),r 8 28 (.ld (t 27)),k 9 29 (.mov (t 6)),k 10 30 (.bld [.int .i64 0,.int .i64 0,.int .i64 0,.int .i64 0] [(0,(1,(i 2))),(3,(1,(t 29)))]),e 31 (.call 110 [t 23,i 0,t 28,t 30]) [],k 12 19 (.mov (t 31)),k 13 32 (.ext (t 19) 0),k 14 33 (.ext (t 19) 1),k 15 8 (.mov (t 32)),k 16 9 (.mov (t 33))] (s (x [m 34 9,q 35 (.bin .neq (t 34) (i 0))] (.cond (t 35) (x [m 36 9,q 4 (.mov (i 0)),m 5 36] .ret) .skip)) (x [m 37 8,q 38 (.bin .mul (i 256) (t 37)),m 39 0,q 40 (.nilc (t 39)),q 41 (.fld (t 40) 7),l 42 41,m 43 8,m 44 1,e 45 (.call 131 [t 42,t 43,t 44]) [],m 4 38,m 5 45] .ret)))))))
theorem e_region_Region_Great:EOk 64 46 m_region_Region_Great Tryz.f64:=fun hn h =>
 enter Tryz.func64 (c:=(Tryz.f64.body.getD .skip)) rfl (by kernel_rfl) (Nat.le_of_ble_eq_true hn) h
def m_tumbrelref09_Region_Great:MC:=(x [q 4 (.mov (i 0)),q 5 (.mov (i 0))] (x [m 9 1,e 10 (.call 132 [t 9]) [],m 6 10] (s (x [m 11 6,q 12 (.bin .eql (t 11) (i 0))] (.cond (t 12) (x [q 4 (.mov (i 0)),q 5 (.mov (i 1))] .ret) .skip)) (x [m 13 0,k 1 14 (.nilc (t 13)),k 2 15 (.fld (t 14) 3),r 3 16 (.ld (t 15)),k 4 17 (.mov (t 0)),k 5 18 (.nilc (t 17)),k 6 19 (.fld (t 18) 0),r 7 20 (.ld (t 19)),k 8 21 (.mov (t 6)),e 22 (.call 133 [t 16,i 0,t 20,t 21]) [],k 10 7 (.mov (t 22))] (s (x [m 23 7,q 24 (.bin .lss (t 23) (i 0))] (.cond (t 24) (x [q 4 (.mov (i 0)),q 5 (.mov (i 5))] .ret) .skip)) (x [m 25 0,m 26 0,q 27 (.nilc (t 26)),q 28 (.fld (t 27) 3),l 29 28,m 30 7,m 31 6,q 32 (.bld [.int .i64 0,.int .i64 0,.int .i64 0,.int .i64 0] [(0,(1,(i 2))),(3,(1,(t 31)))]),e 33 (.call 117 [t 29,t 30,t 32]) [],q 34 (.nilc (t 25)),q 35 (.fld (t 34) 3),w (.st (t 35) (t 33)) []] (x [m 36 0,k 1 37 (.nilc (t 36)),k 2 38 (.fld (t 37) 5),r 3 39 (.ld (t 38)),k 4 40 (.mov (t 0)),k 5 41 (.nilc (t 40)),k 6 42 (.fld (t 41) 2),r 7 43 (.ld (t 42)),k 8 44 (.nilc (t 39)),k 9 45 (.fld (t 44) 0),w (.st (t 45) (t 43)) []] (x [m 46 0,q 47 (.nilc (t 46)),q 48 (.fld (t 47) 5),l 49 48,m 50 7,m 51 1,e 52 (.call 134 [t 49,t 50,t 51]) [],m 8 52] (x [m 53 0,m 54 0,q 55 (.nilc (t 54)),q 56 (.fld (t 55) 5),l 57 56,q 58 (.nilc (t 57)),q 59 (.fld (t 58) 0),l 60 59,q 61 (.nilc (t 53)),q 62 (.fld (t 61) 2),w (.st (t 62) (t 60)) []] (x [m 63 7,q 64 (.bin .mul (i 256) (t 63)),m 65 8,m 4 64,m 5 65] .ret))))))))))
theorem e_tumbrelref09_Region_Great:EOk 65 66 m_tumbrelref09_Region_Great Tryz.f65:=fun hn h =>
 enter Tryz.func65 (c:=(Tryz.f65.body.getD .skip)) rfl (by kernel_rfl) (Nat.le_of_ble_eq_true hn) h
def m_arena_Arena_SetWord:MC:=(x [q 6 (.mov (i 0))] (s (x [m 8 0,m 9 1,e 10 (.call 135 [t 8,t 9]) [],m 7 10] (x [m 11 7,q 12 (.bin .neq (t 11) (i 0))] (.cond (t 12) (x [m 13 7,m 6 13] .ret) .skip))) (x [m 14 0,k 1 15 (.nilc (t 14)),k 2 16 (.fld (t 15) 0),r 3 17 (.ld (t 16)),k 4 18 (.mov (t 1)),k 5 19 (.slc (t 17) (some (t 18)) none 1),k 6 20 (.mov (t 2)),e 21 (.call 136 [i 8,t 20]) [3],e 22 (.raw (o (.call ⟨(.builtin .copy),[t 19,t 21].toArray,[115,115].toArray⟩) 3)) [3]] (x [q 6 (.mov (i 0))] .ret))))
theorem e_arena_Arena_SetWord:EOk 66 23 m_arena_Arena_SetWord Tryz.f66:=fun hn h =>
 enter Tryz.func66 (c:=(Tryz.f66.body.getD .skip)) rfl (by kernel_rfl) (Nat.le_of_ble_eq_true hn) h
def m_gheap_Heap_Room:MC:=(x [e 3 (.box 103 (t 1)) [],q 4 (.mov (.const (.bool false)))] (x [r 0 10 (.ldn (t 3) 2),e 11 (.call 108 [t 10]) [],m 9 11,q 12 (.ext (t 9) 0),q 13 (.ext (t 9) 1),m 5 12,m 6 13] (s (x [m 14 0,q 15 (.nilp false (t 14)),m 16 15,n 0 17 16 (.mov (t 6)),n 0 18 16 (.un .not (t 17)),q 19 (.pick (t 16) (.const (.bool true)) (t 18))] (.cond (t 19) (x [q 4 (.mov (.const (.bool false)))] .ret) .skip)) (x [m 21 0,m 22 5,e 23 (.call 109 [t 21,t 22]) [],m 20 23,q 24 (.ext (t 20) 0),q 25 (.ext (t 20) 1),m 7 24,m 8 25] (x [m 26 8,k 1 27 (.mov (t 26)),n 2 28 27 (.mov (t 0)),n 3 29 27 (.nilc (t 28)),n 4 30 27 (.fld (t 29) 0),p 5 31 27 (.ld (t 30)),n 7 33 27 (.mov (t 0)),n 8 34 27 (.nilc (t 33)),n 9 35 27 (.fld (t 34) 1),p 10 36 27 (.ld (t 35)),n 11 37 27 (.mov (t 0)),n 12 38 27 (.nilc (t 37)),n 13 39 27 (.fld (t 38) 2),p 14 40 27 (.ld (t 39)),.e (some 32) (some (27,false)) (.call 73 [t 31]) [14,10],.e (some 41) (some (27,false)) (.call 137 [t 32,t 36,t 40]) [],n 16 42 27 (.bin .gtr (t 41) (i 0)),k 17 43 (.pick (t 27) (.const (.bool true)) (t 42)),k 18 4 (.mov (t 43))] .ret)))))
theorem e_gheap_Heap_Room:EOk 67 44 m_gheap_Heap_Room Tryz.f67:=fun hn h =>
 enter Tryz.func67 (c:=(Tryz.f67.body.getD .skip)) rfl (by kernel_rfl) (Nat.le_of_ble_eq_true hn) h
def m_tumbrelref18_Heap_Room:MC:=(x [e 3 (.box 35 (t 1)) [],q 4 (.mov (.const (.bool false)))] (s (x [r 0 7 (.ldn (t 3) 2),e 8 (.call 114 [t 7]) [],q 9 (.bin .eql (t 8) (i 0))] (.cond (t 9) (x [q 4 (.mov (.const (.bool false)))] .ret) .skip)) (x [m 11 0,r 0 12 (.ldn (t 3) 2),e 13 (.call 116 [t 12]) [],e 14 (.call 115 [t 11,t 13]) [],m 10 14,q 15 (.ext (t 10) 0),q 16 (.ext (t 10) 1),m 5 15,m 6 16] (x [m 17 5,q 18 (.bin .geq (t 17) (i 0)),m 4 18] .ret))))
theorem e_tumbrelref18_Heap_Room:EOk 68 19 m_tumbrelref18_Heap_Room Tryz.f68:=fun hn h =>
 enter Tryz.func68 (c:=(Tryz.f68.body.getD .skip)) rfl (by kernel_rfl) (Nat.le_of_ble_eq_true hn) h
def m_slices_ContainsFunc_cycle_thread_cycle_thread_:MC:=(x [q 4 (.mov (.const (.bool false)))] (x [m 5 0,m 6 1,e 7 (.call 138 [t 5,t 6]) [],q 8 (.bin .geq (t 7) (i 0)),m 4 8] .ret))
theorem e_slices_ContainsFunc_cycle_thread_cycle_thread_:EOk 69 9 m_slices_ContainsFunc_cycle_thread_cycle_thread_ Tryz.f69:=fun hn h =>
 enter Tryz.func69 (c:=(Tryz.f69.body.getD .skip)) rfl (by kernel_rfl) (Nat.le_of_ble_eq_true hn) h
def m_cycle_Cycle_All_c1:MC:=(x [e 1 (.box 86 (t 0)) [],q 2 (.mov (.const (.bool false)))] (x [q 3 (.fld (t 1) 0),l 4 3,q 5 (.un .not (t 4)),m 2 5] .ret))
theorem e_cycle_Cycle_All_c1:EOk 70 6 m_cycle_Cycle_All_c1 Tryz.f70:=fun hn h =>
 enter Tryz.func70 (c:=(Tryz.f70.body.getD .skip)) rfl (by kernel_rfl) (Nat.le_of_ble_eq_true hn) h
def m_arena_Arena_Load:MC:=(x [q 6 (.mov (.const (.slice none 0 0))),q 7 (.mov (i 0))] (s (x [m 9 0,m 10 1,m 11 2,e 12 (.call 139 [t 9,t 10,t 11]) [],m 8 12] (x [m 13 8,q 14 (.bin .neq (t 13) (i 0))] (.cond (t 14) (x [m 15 8,q 6 (.mov (.const (.slice none 0 0))),m 7 15] .ret) .skip))) (x [m 16 0,q 17 (.nilc (t 16)),q 18 (.fld (t 17) 0),l 19 18,m 20 1,m 21 1,m 22 2,q 23 (.bin .add (t 21) (t 22)),q 24 (.slc (t 19) (some (t 20)) (some (t 23)) 1),e 25 (.call 140 [t 24]) [],m 6 25,q 7 (.mov (i 0))] .ret)))
theorem e_arena_Arena_Load:EOk 71 26 m_arena_Arena_Load Tryz.f71:=fun hn h =>
 enter Tryz.func71 (c:=(Tryz.f71.body.getD .skip)) rfl (by kernel_rfl) (Nat.le_of_ble_eq_true hn) h
def m_tumbrellaw04_Same:MC:=(x [q 4 (.mov (.const (.bool false)))] (s (x [m 7 0,e 8 (.call 141 [t 7]) [],m 9 1,q 10 (.len (t 9)),q 11 (.bin .neq (t 8) (t 10))] (.cond (t 11) (x [q 4 (.mov (.const (.bool false)))] .ret) .skip)) (s (x [m 12 1,q 13 (.len (t 12)),q 14 (.mov (i 0))] (.block 0 (.loop (x [q 15 (.bin .lss (t 14) (t 13))] (s (.cond (t 15) .skip (.exit 0)) (s (.block 1 (x [m 16 14,q 17 (.idx (t 12) (t 14) 4),r 0 18 (.ldn (t 17) 4),e 6 (.new 175 [.int .i64 0,.int .i64 0,.int .i64 0,.int .i64 0]) [],m 5 16,w (.stn (t 6) (t 18) 4) []] (x [m 19 0,k 1 20 (.mov (t 5)),r 3 22 (.ldn (t 6) 4),e 21 (.call 142 [t 19,t 20]) [3],e 23 (.call 143 [t 22]) [],r 5 24 (.raw (o (.binOp .neq 167 (t 21) (t 23) 167) 4))] (.cond (t 24) (x [q 4 (.mov (.const (.bool false)))] .ret) .skip)))) (.reg [q 25 (.bin .add (t 14) (i 1)),m 14 25]))))))) (x [m 26 0,e 27 (.call 142 [t 26,i (-1)]) [],q 28 (.bld [.int .i64 0,.int .i64 0,.int .i64 0,.int .i64 0] []),r 0 29 (.raw (o (.binOp .eql 167 (t 27) (t 28) 167) 4)),m 30 29,g 0 31 30 (.mov (t 0)),g 0 32 30 (.mov (t 1)),g 0 33 30 (.len (t 32)),.e (some 34) (some (30,true)) (.call 142 [t 31,t 33]) [],g 0 35 30 (.bld [.int .i64 0,.int .i64 0,.int .i64 0,.int .i64 0] []),h 0 36 30 (.raw (o (.binOp .eql 167 (t 34) (t 35) 167) 4)),q 37 (.pick (t 30) (t 36) (.const (.bool false))),m 4 37] .ret))))
theorem e_tumbrellaw04_Same:EOk 72 38 m_tumbrellaw04_Same Tryz.f72:=fun hn h =>
 enter Tryz.func72 (c:=(Tryz.f72.body.getD .skip)) rfl (by kernel_rfl) (Nat.le_of_ble_eq_true hn) h
def m_region_Region_Pages:MC:=(x [q 2 (.mov (.const (.pointer none)))] (s (x [m 3 0,q 4 (.nilp false (t 3))] (.cond (t 4) (x [q 2 (.mov (.const (.pointer none)))] .ret) .skip)) (x [m 5 0,q 6 (.nilc (t 5)),q 7 (.fld (t 6) 4),l 8 7,m 2 8] .ret)))
theorem e_region_Region_Pages:EOk 73 9 m_region_Region_Pages Tryz.f73:=fun hn h =>
 enter Tryz.func73 (c:=(Tryz.f73.body.getD .skip)) rfl (by kernel_rfl) (Nat.le_of_ble_eq_true hn) h
def m_gheap_Heap_All:MC:=(x [q 2 (.mov (.const (.slice none 0 0)))] (s (x [m 3 0,q 4 (.nilp false (t 3))] (.cond (t 4) (x [q 2 (.mov (.const (.slice none 0 0)))] .ret) .skip)) (x [m 5 0,q 6 (.nilc (t 5)),q 7 (.fld (t 6) 3),l 8 7,e 9 (.call 144 [t 8]) [],m 2 9] .ret)))
theorem e_gheap_Heap_All:EOk 74 10 m_gheap_Heap_All Tryz.f74:=fun hn h =>
 enter Tryz.func74 (c:=(Tryz.f74.body.getD .skip)) rfl (by kernel_rfl) (Nat.le_of_ble_eq_true hn) h
def m_gheap_Heap_Has:MC:=(x [q 4 (.mov (.const (.bool false)))] (x [m 5 0,q 6 (.nilp true (t 5)),m 7 6,g 0 8 7 (.mov (t 1)),g 0 9 7 (.bin .geq (t 8) (i 0)),q 10 (.pick (t 7) (t 9) (.const (.bool false))),m 11 10,g 0 12 11 (.mov (t 1)),g 0 13 11 (.bin .rem (t 12) (i 16)),g 0 14 11 (.bin .eql (t 13) (i 0)),q 15 (.pick (t 11) (t 14) (.const (.bool false))),m 16 15,g 0 17 16 (.mov (t 0)),g 0 18 16 (.nilc (t 17)),g 0 19 16 (.fld (t 18) 3),h 0 20 16 (.ld (t 19)),g 0 21 16 (.mov (t 1)),g 0 22 16 (.bin .quo (t 21) (i 16)),.e (some 23) (some (16,true)) (.call 145 [t 20,t 22]) [],q 24 (.pick (t 16) (t 23) (.const (.bool false))),m 4 24] .ret))
theorem e_gheap_Heap_Has:EOk 75 25 m_gheap_Heap_Has Tryz.f75:=fun hn h =>
 enter Tryz.func75 (c:=(Tryz.f75.body.getD .skip)) rfl (by kernel_rfl) (Nat.le_of_ble_eq_true hn) h
def m_gheap_Heap_Marked:MC:=(x [q 4 (.mov (.const (.bool false)))] (x [m 5 0,m 6 1,e 7 (.call 75 [t 5,t 6]) [],m 8 7,g 0 9 8 (.mov (t 0)),g 0 10 8 (.nilc (t 9)),g 0 11 8 (.fld (t 10) 4),h 0 12 8 (.ld (t 11)),g 0 13 8 (.mov (t 1)),g 0 14 8 (.bin .quo (t 13) (i 16)),.e (some 15) (some (8,true)) (.call 145 [t 12,t 14]) [],q 16 (.pick (t 8) (t 15) (.const (.bool false))),m 4 16] .ret))
theorem e_gheap_Heap_Marked:EOk 76 17 m_gheap_Heap_Marked Tryz.f76:=fun hn h =>
 enter Tryz.func76 (c:=(Tryz.f76.body.getD .skip)) rfl (by kernel_rfl) (Nat.le_of_ble_eq_true hn) h
def m_gheap_Heap_In:MC:=(x [q 4 (.mov (.const (.slice none 0 0)))] (x [q 5 (.mov (.const (.slice none 0 0)))] (s (x [m 8 0,e 9 (.call 74 [t 8]) [],q 10 (.len (t 9)),q 11 (.mov (i 0))] (.block 0 (.loop (x [q 12 (.bin .lss (t 11) (t 10))] (s (.cond (t 12) .skip (.exit 0)) (s (.block 1 (x [q 13 (.idx (t 9) (t 11) 1),l 14 13,m 7 14] (x [m 15 7,q 16 (.bin .quo (t 15) (i 256)),m 17 1,q 18 (.bin .eql (t 16) (t 17))] (.cond (t 18) (.reg [m 19 5,m 20 7,e 21 (.bs1 3 1 (t 20)) [],e 22 (.raw (o (.call ⟨(.builtin .append),[t 19,t 21].toArray,[38,38].toArray⟩) 38)) [],m 5 22]) .skip)))) (.reg [q 23 (.bin .add (t 11) (i 1)),m 11 23]))))))) (x [m 24 5,m 4 24] .ret))))
theorem e_gheap_Heap_In:EOk 77 25 m_gheap_Heap_In Tryz.f77:=fun hn h =>
 enter Tryz.func77 (c:=(Tryz.f77.body.getD .skip)) rfl (by kernel_rfl) (Nat.le_of_ble_eq_true hn) h
def m_tumbrelref18_Heap_In:MC:=(x [q 4 (.mov (.const (.slice none 0 0)))] (x [q 5 (.mov (.const (.slice none 0 0)))] (s (x [m 8 0,q 9 (.nilc (t 8)),q 10 (.fld (t 9) 1),l 11 10,q 12 (.len (t 11)),q 13 (.mov (i 0))] (.block 0 (.loop (x [q 14 (.bin .lss (t 13) (t 12))] (s (.cond (t 14) .skip (.exit 0)) (s (.block 1 (x [q 15 (.idx (t 11) (t 13) 2),r 0 16 (.ldn (t 15) 2),e 7 (.new 66 [.int .i64 0,.bool false]) [],w (.stn (t 7) (t 16) 2) []] (x [q 17 (.fld (t 7) 0),l 18 17,q 19 (.bin .quo (t 18) (i 256)),m 20 1,q 21 (.bin .eql (t 19) (t 20))] (.cond (t 21) (.reg [m 22 5,q 23 (.fld (t 7) 0),l 24 23,e 25 (.bs1 3 1 (t 24)) [],e 26 (.raw (o (.call ⟨(.builtin .append),[t 22,t 25].toArray,[38,38].toArray⟩) 38)) [],m 5 26]) .skip)))) (.reg [q 27 (.bin .add (t 13) (i 1)),m 13 27]))))))) (x [m 28 5,m 4 28] .ret))))
theorem e_tumbrelref18_Heap_In:EOk 78 29 m_tumbrelref18_Heap_In Tryz.f78:=fun hn h =>
 enter Tryz.func78 (c:=(Tryz.f78.body.getD .skip)) rfl (by kernel_rfl) (Nat.le_of_ble_eq_true hn) h
def m_tumbrelref18_Heap_Managed:MC:=(x [q 4 (.mov (.const (.bool false)))] (x [m 5 1,q 6 (.bin .geq (t 5) (i 0)),m 7 6,g 0 8 7 (.mov (t 1)),g 0 9 7 (.mov (t 0)),g 0 10 7 (.nilc (t 9)),g 0 11 7 (.fld (t 10) 0),h 0 12 7 (.ld (t 11)),g 0 13 7 (.nilc (t 12)),g 0 14 7 (.fld (t 13) 3),h 0 15 7 (.ld (t 14)),g 0 16 7 (.len (t 15)),g 0 17 7 (.bin .lss (t 8) (t 16)),q 18 (.pick (t 7) (t 17) (.const (.bool false))),m 19 18,g 0 20 19 (.mov (t 0)),g 0 21 19 (.nilc (t 20)),g 0 22 19 (.fld (t 21) 0),h 0 23 19 (.ld (t 22)),g 0 24 19 (.nilc (t 23)),g 0 25 19 (.fld (t 24) 3),h 0 26 19 (.ld (t 25)),g 0 27 19 (.mov (t 1)),g 0 28 19 (.idx (t 26) (t 27) 4),g 0 29 19 (.fld (t 28) 0),h 0 30 19 (.ld (t 29)),g 0 31 19 (.bin .eql (t 30) (i 4)),q 32 (.pick (t 19) (t 31) (.const (.bool false))),m 4 32] .ret))
theorem e_tumbrelref18_Heap_Managed:EOk 79 33 m_tumbrelref18_Heap_Managed Tryz.f79:=fun hn h =>
 enter Tryz.func79 (c:=(Tryz.f79.body.getD .skip)) rfl (by kernel_rfl) (Nat.le_of_ble_eq_true hn) h
def m_gheap_Heap_Pages:MC:=(x [q 2 (.mov (.const (.slice none 0 0)))] (x [q 3 (.mov (.const (.slice none 0 0)))] (s (x [m 5 0,q 6 (.nilp false (t 5))] (.cond (t 6) (x [m 7 3,m 2 7] .ret) .skip)) (s (x [m 8 0,q 9 (.nilc (t 8)),q 10 (.fld (t 9) 1),l 11 10,m 4 11] (.block 0 (.loop (s (x [m 12 4,m 13 0,q 14 (.nilc (t 13)),q 15 (.fld (t 14) 2),l 16 15,q 17 (.bin .lss (t 12) (t 16))] (.cond (t 17) .skip (.exit 0))) (s (.block 1 (x [m 20 0,m 21 4,e 22 (.call 125 [t 20,t 21]) []] (.cond (t 22) (.reg [m 23 3,m 24 4,e 25 (.bs1 3 1 (t 24)) [],e 26 (.raw (o (.call ⟨(.builtin .append),[t 23,t 25].toArray,[38,38].toArray⟩) 38)) [],m 3 26]) .skip))) (.reg [m 18 4,q 19 (.bin .add (t 18) (i 1)),m 4 19])))))) (x [m 27 3,m 2 27] .ret)))))
theorem e_gheap_Heap_Pages:EOk 80 28 m_gheap_Heap_Pages Tryz.f80:=fun hn h =>
 enter Tryz.func80 (c:=(Tryz.f80.body.getD .skip)) rfl (by kernel_rfl) (Nat.le_of_ble_eq_true hn) h
def m_object_Refs:MC:=(x [q 4 (.mov (.const (.slice none 0 0))),q 5 (.mov (i 0))] (x [m 13 0,m 14 1,e 15 (.call 146 [t 13,t 14]) [],m 12 15,q 16 (.ext (t 12) 0),q 17 (.ext (t 12) 1),e 6 (.new 103 [.int .i64 0,.int .i64 0]) [],w (.stn (t 6) (t 16) 2) [],m 7 17] (s (x [m 18 7,q 19 (.bin .neq (t 18) (i 0))] (.cond (t 19) (x [m 20 7,q 4 (.mov (.const (.slice none 0 0))),m 5 20] .ret) .skip)) (x [q 8 (.mov (.const (.slice none 0 0)))] (s (x [q 21 (.fld (t 6) 0),l 22 21,q 23 (.mov (i 0))] (.block 0 (.loop (x [q 24 (.bin .lss (t 23) (t 22))] (s (.cond (t 24) .skip (.exit 0)) (s (.block 1 (x [m 25 23,m 9 25] (x [m 27 0,m 28 1,m 29 9,e 30 (.call 147 [t 27,t 28,t 29]) [],m 26 30,q 31 (.ext (t 26) 0),q 32 (.ext (t 26) 1),m 10 31,m 11 32] (.reg [m 33 8,m 34 10,e 35 (.bs1 3 1 (t 34)) [],e 36 (.raw (o (.call ⟨(.builtin .append),[t 33,t 35].toArray,[38,38].toArray⟩) 38)) [],m 8 36])))) (.reg [q 37 (.bin .add (t 23) (i 1)),m 23 37]))))))) (x [m 38 8,m 4 38,q 5 (.mov (i 0))] .ret))))))
theorem e_object_Refs:EOk 81 39 m_object_Refs Tryz.f81:=fun hn h =>
 enter Tryz.func81 (c:=(Tryz.f81.body.getD .skip)) rfl (by kernel_rfl) (Nat.le_of_ble_eq_true hn) h
def m_tumbrelref17_Head:MC:=(x [e 4 (.new 35 [.int .i64 0,.int .i64 0]) [],q 5 (.mov (i 0))] (x [m 12 0,m 13 1,e 14 (.call 151 [t 12,t 13]) [],m 11 14,q 15 (.ext (t 11) 0),q 16 (.ext (t 11) 1),m 6 15,m 7 16] (s (x [m 17 7,q 18 (.bin .neq (t 17) (i 0))] (.cond (t 18) (x [q 19 (.bld [.int .i64 0,.int .i64 0] []),m 20 7,w (.stn (t 4) (t 19) 2) [],m 5 20] .ret) .skip)) (s (x [q 8 (.mov (i 0))] (.block 0 (.loop (s (x [m 21 8,q 22 (.bin .leq (t 21) (i 15))] (.cond (t 22) .skip (.exit 0))) (s (.block 1 (x [q 9 (.mov (i 0))] (.block 2 (.loop (s (x [m 25 9,m 26 8,q 27 (.bin .sub (i 15) (t 26)),q 28 (.bin .leq (t 25) (t 27))] (.cond (t 28) .skip (.exit 2))) (s (.block 3 (x [m 31 8,m 32 9,q 33 (.bld [.int .i64 0,.int .i64 0] [(0,(1,(t 31))),(1,(1,(t 32)))]),e 10 (.new 35 [.int .i64 0,.int .i64 0]) [],w (.stn (t 10) (t 33) 2) []] (x [m 34 6,r 0 35 (.ldn (t 10) 2),e 36 (.call 152 [t 35]) [],q 37 (.bin .eql (t 34) (t 36)),m 38 37,g 0 39 38 (.mov (t 0)),g 0 40 38 (.mov (t 1)),h 0 41 38 (.ldn (t 10) 2),.e (some 42) (some (38,true)) (.call 114 [t 41]) [],.e (some 43) (some (38,true)) (.call 153 [t 39,t 40,t 42]) [],q 44 (.pick (t 38) (t 43) (.const (.bool false)))] (.cond (t 44) (x [r 0 45 (.ldn (t 10) 2),w (.stn (t 4) (t 45) 2) [],q 5 (.mov (i 0))] .ret) .skip)))) (.reg [m 29 9,q 30 (.bin .add (t 29) (i 1)),m 9 30]))))))) (.reg [m 23 8,q 24 (.bin .add (t 23) (i 1)),m 8 24])))))) (x [q 46 (.bld [.int .i64 0,.int .i64 0] []),w (.stn (t 4) (t 46) 2) [],q 5 (.mov (i 4))] .ret)))))
theorem e_tumbrelref17_Head:EOk 84 47 m_tumbrelref17_Head Tryz.f84:=fun hn h =>
 enter Tryz.func84 (c:=(Tryz.f84.body.getD .skip)) rfl (by kernel_rfl) (Nat.le_of_ble_eq_true hn) h
def m_tumbrelref17_Field:MC:=(x [q 8 (.mov (i 0)),q 9 (.mov (i 0))] (x [m 13 0,m 14 1,e 15 (.call 84 [t 13,t 14]) [],m 12 15,q 16 (.ext (t 12) 0),q 17 (.ext (t 12) 1),e 10 (.new 35 [.int .i64 0,.int .i64 0]) [],w (.stn (t 10) (t 16) 2) [],m 11 17] (s (x [m 18 11,q 19 (.bin .neq (t 18) (i 0))] (.cond (t 19) (x [m 20 11,q 8 (.mov (i 0)),m 9 20] .ret) .skip)) (s (x [m 21 3,m 22 21,g 0 23 22 (.mov (t 2)),g 0 24 22 (.bin .geq (t 23) (i 0)),q 25 (.pick (t 22) (t 24) (.const (.bool false))),m 26 25,g 0 27 26 (.mov (t 2)),g 0 28 26 (.fld (t 10) 1),h 0 29 26 (.ld (t 28)),g 0 30 26 (.bin .lss (t 27) (t 29)),q 31 (.pick (t 26) (t 30) (.const (.bool false)))] (.cond (t 31) (x [m 32 1,q 33 (.bin .add (t 32) (i 8)),q 34 (.fld (t 10) 0),l 35 34,q 36 (.bin .mul (i 8) (t 35)),q 37 (.bin .add (t 33) (t 36)),m 38 2,q 39 (.bin .mul (i 8) (t 38)),q 40 (.bin .add (t 37) (t 39)),m 8 40,q 9 (.mov (i 0))] .ret) .skip)) (s (x [m 41 3,q 42 (.un .not (t 41)),m 43 42,g 0 44 43 (.mov (t 2)),g 0 45 43 (.bin .geq (t 44) (i 0)),q 46 (.pick (t 43) (t 45) (.const (.bool false))),m 47 46,g 0 48 47 (.mov (t 2)),g 0 49 47 (.fld (t 10) 0),h 0 50 47 (.ld (t 49)),g 0 51 47 (.bin .lss (t 48) (t 50)),q 52 (.pick (t 47) (t 51) (.const (.bool false)))] (.cond (t 52) (x [m 53 1,q 54 (.bin .add (t 53) (i 8)),m 55 2,q 56 (.bin .mul (i 8) (t 55)),q 57 (.bin .add (t 54) (t 56)),m 8 57,q 9 (.mov (i 0))] .ret) .skip)) (x [q 8 (.mov (i 0)),q 9 (.mov (i 3))] .ret))))))
theorem e_tumbrelref17_Field:EOk 85 58 m_tumbrelref17_Field Tryz.f85:=fun hn h =>
 enter Tryz.func85 (c:=(Tryz.f85.body.getD .skip)) rfl (by kernel_rfl) (Nat.le_of_ble_eq_true hn) h
def m_tumbrelref01_Get:MC:=(x [q 2 (.mov (.const (.int .u64 0)))] (s (x [m 5 0,q 6 (.len (t 5)),q 7 (.bin .gtr (t 6) (i 8))] (.cond (t 7) (.reg [m 8 0,q 9 (.slc (t 8) none (some (i 8)) 1),m 0 9]) .skip)) (x [q 3 (.mov (.const (.int .u64 0)))] (s (x [m 10 0,q 11 (.len (t 10)),q 12 (.bin .sub (t 11) (i 1)),m 4 12] (.block 0 (.loop (s (x [m 13 4,q 14 (.bin .geq (t 13) (i 0))] (.cond (t 14) .skip (.exit 0))) (s (.block 1 (.reg [m 17 3,q 18 (.bin .mul (t 17) (.const (.int .u64 256))),m 19 0,m 20 4,q 21 (.idx (t 19) (t 20) 1),l 22 21,q 23 (.cvi .u64 (t 22)),q 24 (.bin .add (t 18) (t 23)),m 3 24])) (.reg [m 15 4,q 16 (.bin .sub (t 15) (i 1)),m 4 16])))))) (x [m 25 3,m 2 25] .ret)))))
theorem e_tumbrelref01_Get:EOk 86 26 m_tumbrelref01_Get Tryz.f86:=fun hn h =>
 enter Tryz.func86 (c:=(Tryz.f86.body.getD .skip)) rfl (by kernel_rfl) (Nat.le_of_ble_eq_true hn) h
def m_arena_New:MC:=(x [q 2 (.mov (.const (.pointer none)))] (x [m 3 0,q 4 (.mm true (t 3) (i 0)),q 5 (.mm false (t 4) (i 256)),q 6 (.bin .mul (i 256) (t 5)),e 7 (.raw (o (.makeSlice 115 (t 6) (t 6)) 115)) [],q 8 (.bld [.slice none 0 0] [(0,(1,(t 7)))]),e 9 (.box 184 (t 8)) [],m 2 9] .ret))
theorem e_arena_New:EOk 90 10 m_arena_New Tryz.f90:=fun hn h =>
 enter Tryz.func90 (c:=(Tryz.f90.body.getD .skip)) rfl (by kernel_rfl) (Nat.le_of_ble_eq_true hn) h
def m_link_New:MC:=(x [e 2 (.new 143 [.int .u64 0]) []] (x [m 3 0,q 4 (.bin .add (t 3) (.const (.int .u64 11400714819323198485))),e 5 (.call 156 [t 4]) [],q 6 (.bld [.int .u64 0] [(0,(1,(t 5)))]),w (.stn (t 2) (t 6) 1) []] .ret))
theorem e_link_New:EOk 91 7 m_link_New Tryz.f91:=fun hn h =>
 enter Tryz.func91 (c:=(Tryz.f91.body.getD .skip)) rfl (by kernel_rfl) (Nat.le_of_ble_eq_true hn) h
def m_pages_New:MC:=(x [q 2 (.mov (.const (.pointer none)))] (x [m 3 0,q 4 (.mm true (t 3) (i 0)),q 5 (.mm false (t 4) (i 256)),e 6 (.raw (o (.makeSlice 200 (t 5) (t 5)) 200)) [],q 7 (.bld [.slice none 0 0] [(0,(1,(t 6)))]),e 8 (.box 202 (t 7)) [],m 2 8] .ret))
theorem e_pages_New:EOk 92 9 m_pages_New Tryz.f92:=fun hn h =>
 enter Tryz.func92 (c:=(Tryz.f92.body.getD .skip)) rfl (by kernel_rfl) (Nat.le_of_ble_eq_true hn) h
def m_large_New:MC:=(x [e 3 (.box 143 (t 1)) [],q 4 (.mov (.const (.pointer none)))] (s (x [m 5 0,q 6 (.nilp false (t 5))] (.cond (t 6) (x [q 4 (.mov (.const (.pointer none)))] .ret) .skip)) (x [m 7 0,r 0 8 (.ldn (t 3) 1),e 9 (.raw (o (.makeMap 197 none) 197)) [],q 10 (.bld [.pointer none,.int .u64 0,.map none] [(0,(1,(t 7))),(1,(1,(t 8))),(2,(1,(t 9)))]),e 11 (.box 204 (t 10)) [],m 4 11] .ret)))
theorem e_large_New:EOk 93 12 m_large_New Tryz.f93:=fun hn h =>
 enter Tryz.func93 (c:=(Tryz.f93.body.getD .skip)) rfl (by kernel_rfl) (Nat.le_of_ble_eq_true hn) h
def m_region_Region_Config:MC:=(x [e 2 (.new 77 [.int .i64 0,.int .i64 0,.int .u64 0]) []] (s (x [m 3 0,q 4 (.nilp false (t 3))] (.cond (t 4) (x [q 5 (.bld [.int .i64 0,.int .i64 0,.int .u64 0] []),w (.stn (t 2) (t 5) 3) []] .ret) .skip)) (x [m 6 0,q 7 (.nilc (t 6)),q 8 (.fld (t 7) 0),r 0 9 (.ldn (t 8) 3),w (.stn (t 2) (t 9) 3) []] .ret)))
theorem e_region_Region_Config:EOk 94 10 m_region_Region_Config Tryz.f94:=fun hn h =>
 enter Tryz.func94 (c:=(Tryz.f94.body.getD .skip)) rfl (by kernel_rfl) (Nat.le_of_ble_eq_true hn) h
def m_arena_Arena_Len:MC:=(x [q 2 (.mov (i 0))] (s (x [m 3 0,q 4 (.nilp false (t 3))] (.cond (t 4) (x [q 2 (.mov (i 0))] .ret) .skip)) (x [m 5 0,q 6 (.nilc (t 5)),q 7 (.fld (t 6) 0),l 8 7,q 9 (.len (t 8)),m 2 9] .ret)))
theorem e_arena_Arena_Len:EOk 95 10 m_arena_Arena_Len Tryz.f95:=fun hn h =>
 enter Tryz.func95 (c:=(Tryz.f95.body.getD .skip)) rfl (by kernel_rfl) (Nat.le_of_ble_eq_true hn) h
def m_bitset_New:MC:=(x [q 2 (.mov (.const (.pointer none)))] (x [m 3 0,q 4 (.mm true (t 3) (i 0)),q 5 (.mm false (t 4) (i 65536)),m 0 5] (x [m 6 0,q 7 (.bin .add (t 6) (i 64)),q 8 (.bin .sub (t 7) (i 1)),q 9 (.bin .quo (t 8) (i 64)),e 10 (.raw (o (.makeSlice 205 (t 9) (t 9)) 205)) [],m 11 0,q 12 (.bld [.slice none 0 0,.int .i64 0] [(0,(1,(t 10))),(1,(1,(t 11)))]),e 13 (.box 207 (t 12)) [],m 2 13] .ret)))
theorem e_bitset_New:EOk 96 14 m_bitset_New Tryz.f96:=fun hn h =>
 enter Tryz.func96 (c:=(Tryz.f96.body.getD .skip)) rfl (by kernel_rfl) (Nat.le_of_ble_eq_true hn) h
def m_tumbrelref06_Key:MC:=(x [q 2 (.mov (.const (.int .u64 0)))] (x [m 3 0,q 4 (.bin .add (t 3) (.const (.int .u64 11400714819323198485))),e 5 (.call 157 [t 4]) [],m 2 5] .ret))
theorem e_tumbrelref06_Key:EOk 97 6 m_tumbrelref06_Key Tryz.f97:=fun hn h =>
 enter Tryz.func97 (c:=(Tryz.f97.body.getD .skip)) rfl (by kernel_rfl) (Nat.le_of_ble_eq_true hn) h
def m_tumbrelref04_New:MC:=(x [q 2 (.mov (.const (.slice none 0 0)))] (s (x [m 3 0,q 4 (.bin .lss (t 3) (i 0))] (.cond (t 4) (.reg [q 0 (.mov (i 0))]) .skip)) (s (x [m 5 0,q 6 (.bin .gtr (t 5) (i 256))] (.cond (t 6) (.reg [q 0 (.mov (i 256))]) .skip)) (x [m 7 0,e 8 (.raw (o (.makeSlice 118 (t 7) (t 7)) 118)) [],m 2 8] .ret))))
theorem e_tumbrelref04_New:EOk 98 9 m_tumbrelref04_New Tryz.f98:=fun hn h =>
 enter Tryz.func98 (c:=(Tryz.f98.body.getD .skip)) rfl (by kernel_rfl) (Nat.le_of_ble_eq_true hn) h
def m_mark_New:MC:=(x [q 2 (.mov (.const (.pointer none)))] (s (x [m 3 0,q 4 (.nilp false (t 3))] (.cond (t 4) (x [q 2 (.mov (.const (.pointer none)))] .ret) .skip)) (x [m 5 0,q 6 (.bld [.pointer none,.slice none 0 0,.int .i64 0] [(0,(1,(t 5)))]),e 7 (.box 209 (t 6)) [],m 2 7] .ret)))
theorem e_mark_New:EOk 99 8 m_mark_New Tryz.f99:=fun hn h =>
 enter Tryz.func99 (c:=(Tryz.f99.body.getD .skip)) rfl (by kernel_rfl) (Nat.le_of_ble_eq_true hn) h
def m_mark_Marker_Root:MC:=(x [q 4 (.mov (i 0))] (s (.block 0 (x [m 6 0,q 7 (.nilp false (t 6)),m 5 7] (.cond (t 5) (x [q 4 (.mov (i 2))] .ret) (x [m 9 1,q 10 (.bin .lss (t 9) (i 0)),m 8 10] (.cond (t 8) (x [q 4 (.mov (i 0))] .ret) (x [m 12 0,q 13 (.nilc (t 12)),q 14 (.fld (t 13) 0),l 15 14,m 16 1,e 17 (.call 75 [t 15,t 16]) [],q 18 (.un .not (t 17)),m 11 18] (.cond (t 11) (x [q 4 (.mov (i 6))] .ret) .skip))))))) (x [m 19 0,m 20 1,e 21 (.call 158 [t 19,t 20]) []] (x [q 4 (.mov (i 0))] .ret))))
theorem e_mark_Marker_Root:EOk 100 22 m_mark_Marker_Root Tryz.f100:=fun hn h =>
 enter Tryz.func100 (c:=(Tryz.f100.body.getD .skip)) rfl (by kernel_rfl) (Nat.le_of_ble_eq_true hn) h
def m_mark_Marker_Left:MC:=(x [q 2 (.mov (i 0))] (s (x [m 3 0,q 4 (.nilp false (t 3))] (.cond (t 4) (x [q 2 (.mov (i 0))] .ret) .skip)) (x [m 5 0,q 6 (.nilc (t 5)),q 7 (.fld (t 6) 1),l 8 7,q 9 (.len (t 8)),m 2 9] .ret)))
theorem e_mark_Marker_Left:EOk 101 10 m_mark_Marker_Left Tryz.f101:=fun hn h =>
 enter Tryz.func101 (c:=(Tryz.f101.body.getD .skip)) rfl (by kernel_rfl) (Nat.le_of_ble_eq_true hn) h
def m_mark_Marker_Step:MC:=(x [q 2 (.mov (.const (.bool false)))] (x [m 9 0,e 10 (.call 101 [t 9]) [],q 11 (.bin .sub (t 10) (i 1)),m 3 11] (s (x [m 12 3,q 13 (.bin .lss (t 12) (i 0))] (.cond (t 13) (x [q 2 (.mov (.const (.bool false)))] .ret) .skip)) (x [m 14 0,q 15 (.nilc (t 14)),q 16 (.fld (t 15) 1),l 17 16,m 18 3,q 19 (.idx (t 17) (t 18) 1),l 20 19,m 4 20] (x [m 21 0,m 22 0,q 23 (.nilc (t 22)),q 24 (.fld (t 23) 1),l 25 24,m 26 3,q 27 (.slc (t 25) none (some (t 26)) 1),q 28 (.nilc (t 21)),q 29 (.fld (t 28) 1),w (.st (t 29) (t 27)) []] (x [m 30 0,q 31 (.nilc (t 30)),q 32 (.fld (t 31) 2),l 33 32,q 34 (.bin .add (t 33) (i 1)),q 35 (.nilc (t 30)),q 36 (.fld (t 35) 2),w (.st (t 36) (t 34)) []] (x [m 38 0,q 39 (.nilc (t 38)),q 40 (.fld (t 39) 0),l 41 40,e 42 (.call 48 [t 41]) [],e 43 (.call 49 [t 42]) [],m 44 4,e 45 (.call 81 [t 43,t 44]) [],m 37 45,q 46 (.ext (t 37) 0),q 47 (.ext (t 37) 1),m 5 46,m 6 47] (s (x [m 48 5,q 49 (.len (t 48)),q 50 (.mov (i 0))] (.block 0 (.loop (x [q 51 (.bin .lss (t 50) (t 49))] (s (.cond (t 51) .skip (.exit 0)) (s (.block 1 (x [q 52 (.idx (t 48) (t 50) 1),l 53 52,m 8 53] (.reg [m 54 0,m 55 8,e 56 (.call 158 [t 54,t 55]) []]))) (.reg [q 57 (.bin .add (t 50) (i 1)),m 50 57]))))))) (x [m 58 0,e 59 (.call 101 [t 58]) [],q 60 (.bin .gtr (t 59) (i 0)),m 2 60] .ret)))))))))
theorem e_mark_Marker_Step:EOk 102 61 m_mark_Marker_Step Tryz.f102:=fun hn h =>
 enter Tryz.func102 (c:=(Tryz.f102.body.getD .skip)) rfl (by kernel_rfl) (Nat.le_of_ble_eq_true hn) h
def m_sweep_New:MC:=(x [q 2 (.mov (.const (.pointer none)))] (s (x [m 3 0,q 4 (.nilp false (t 3))] (.cond (t 4) (x [q 2 (.mov (.const (.pointer none)))] .ret) .skip)) (x [m 5 0,m 6 0,e 7 (.call 80 [t 6]) [],q 8 (.bld [.pointer none,.slice none 0 0,.int .i64 0] [(0,(1,(t 5))),(1,(1,(t 7)))]),e 9 (.box 211 (t 8)) [],m 2 9] .ret)))
theorem e_sweep_New:EOk 103 10 m_sweep_New Tryz.f103:=fun hn h =>
 enter Tryz.func103 (c:=(Tryz.f103.body.getD .skip)) rfl (by kernel_rfl) (Nat.le_of_ble_eq_true hn) h
def m_sweep_Sweeper_Left:MC:=(x [q 2 (.mov (i 0))] (s (x [m 3 0,q 4 (.nilp false (t 3))] (.cond (t 4) (x [q 2 (.mov (i 0))] .ret) .skip)) (x [m 5 0,q 6 (.nilc (t 5)),q 7 (.fld (t 6) 1),l 8 7,q 9 (.len (t 8)),m 2 9] .ret)))
theorem e_sweep_Sweeper_Left:EOk 104 10 m_sweep_Sweeper_Left Tryz.f104:=fun hn h =>
 enter Tryz.func104 (c:=(Tryz.f104.body.getD .skip)) rfl (by kernel_rfl) (Nat.le_of_ble_eq_true hn) h
def m_sweep_Sweeper_Step:MC:=(x [q 2 (.mov (i 0)),q 3 (.mov (.const (.bool false)))] (s (x [m 5 0,e 6 (.call 104 [t 5]) [],q 7 (.bin .eql (t 6) (i 0))] (.cond (t 7) (x [q 2 (.mov (i 0)),q 3 (.mov (.const (.bool false)))] .ret) .skip)) (x [m 8 0,m 9 0,q 10 (.nilc (t 9)),q 11 (.fld (t 10) 1),l 12 11,q 13 (.idx (t 12) (i 0) 1),l 14 13,e 15 (.call 159 [t 8,t 14]) [],m 4 15] (x [m 16 0,m 17 0,q 18 (.nilc (t 17)),q 19 (.fld (t 18) 1),l 20 19,q 21 (.slc (t 20) (some (i 1)) none 1),q 22 (.nilc (t 16)),q 23 (.fld (t 22) 1),w (.st (t 23) (t 21)) []] (x [m 24 0,q 25 (.nilc (t 24)),q 26 (.fld (t 25) 2),l 27 26,m 28 4,q 29 (.bin .add (t 27) (t 28)),q 30 (.nilc (t 24)),q 31 (.fld (t 30) 2),w (.st (t 31) (t 29)) []] (s (x [m 32 0,q 33 (.nilc (t 32)),q 34 (.fld (t 33) 1),l 35 34,q 36 (.len (t 35)),q 37 (.bin .eql (t 36) (i 0))] (.cond (t 37) (.reg [m 38 0,q 39 (.nilc (t 38)),q 40 (.fld (t 39) 0),l 41 40,e 42 (.call 57 [t 41]) []]) .skip)) (x [m 43 4,k 1 44 (.mov (t 0)),k 2 45 (.nilc (t 44)),k 3 46 (.fld (t 45) 1),r 4 47 (.ld (t 46)),k 5 48 (.len (t 47)),k 6 49 (.bin .gtr (t 48) (i 0)),k 7 2 (.mov (t 43)),k 8 3 (.mov (t 49))] .ret)))))))
theorem e_sweep_Sweeper_Step:EOk 105 50 m_sweep_Sweeper_Step Tryz.f105:=fun hn h =>
 enter Tryz.func105 (c:=(Tryz.f105.body.getD .skip)) rfl (by kernel_rfl) (Nat.le_of_ble_eq_true hn) h
def m_sweep_Sweeper_Gone:MC:=(x [q 2 (.mov (i 0))] (s (x [m 3 0,q 4 (.nilp false (t 3))] (.cond (t 4) (x [q 2 (.mov (i 0))] .ret) .skip)) (x [m 5 0,q 6 (.nilc (t 5)),q 7 (.fld (t 6) 2),l 8 7,m 2 8] .ret)))
theorem e_sweep_Sweeper_Gone:EOk 106 9 m_sweep_Sweeper_Gone Tryz.f106:=fun hn h =>
 enter Tryz.func106 (c:=(Tryz.f106.body.getD .skip)) rfl (by kernel_rfl) (Nat.le_of_ble_eq_true hn) h
def m_tumbrelref19_Marker_note:MC:=(x [m 4 0,q 5 (.nilc (t 4)),q 6 (.fld (t 5) 0),l 7 6,m 8 1,e 9 (.call 56 [t 7,t 8]) []] (.cond (t 9) (.reg [m 10 0,e 11 (.bs0 3) [],m 12 0,q 13 (.nilc (t 12)),q 14 (.fld (t 13) 1),l 15 14,e 16 (.raw (o (.call ⟨(.builtin .append),[t 11,t 15].toArray,[38,38].toArray⟩) 38)) [],m 17 1,e 18 (.bs1 3 1 (t 17)) [],e 19 (.raw (o (.call ⟨(.builtin .append),[t 16,t 18].toArray,[38,38].toArray⟩) 38)) [],q 20 (.nilc (t 10)),q 21 (.fld (t 20) 1),w (.st (t 21) (t 19)) []]) .skip))
theorem e_tumbrelref19_Marker_note:EOk 107 22 m_tumbrelref19_Marker_note Tryz.f107:=fun hn h =>
 enter Tryz.func107 (c:=(Tryz.f107.body.getD .skip)) rfl (by kernel_rfl) (Nat.le_of_ble_eq_true hn) h
def m_object_Shape_Class:MC:=(x [e 1 (.box 103 (t 0)) [],q 2 (.mov (i 0)),q 3 (.mov (.const (.bool false)))] (x [r 0 8 (.ldn (t 1) 2),e 9 (.call 160 [t 8]) [],m 7 9,q 10 (.ext (t 7) 0),q 11 (.ext (t 7) 1),m 4 10,m 5 11] (x [q 6 (.mov (i 0))] (s (.block 0 (.loop (s (x [m 12 5,m 13 12,g 0 14 13 (.mov (t 6)),.e (some 15) (some (13,true)) (.call 120 [t 14]) [],g 0 16 13 (.mov (t 4)),g 0 17 13 (.bin .lss (t 15) (t 16)),q 18 (.pick (t 13) (t 17) (.const (.bool false)))] (.cond (t 18) .skip (.exit 0))) (.block 1 (.reg [m 19 6,q 20 (.bin .add (t 19) (i 1)),m 6 20]))))) (x [m 21 6,m 22 5,m 2 21,m 3 22] .ret)))))
theorem e_object_Shape_Class:EOk 108 23 m_object_Shape_Class Tryz.f108:=fun hn h =>
 enter Tryz.func108 (c:=(Tryz.f108.body.getD .skip)) rfl (by kernel_rfl) (Nat.le_of_ble_eq_true hn) h
def m_gheap_Heap_place:MC:=(x [q 4 (.mov (i 0)),q 5 (.mov (.const (.bool false)))] (s (x [m 9 0,q 10 (.nilc (t 9)),q 11 (.fld (t 10) 1),l 12 11,m 6 12] (.block 0 (.loop (s (x [m 13 6,m 14 0,q 15 (.nilc (t 14)),q 16 (.fld (t 15) 2),l 17 16,q 18 (.bin .lss (t 13) (t 17))] (.cond (t 18) .skip (.exit 0))) (s (.block 1 (x [m 21 0,m 22 6,e 23 (.call 125 [t 21,t 22]) [],m 24 23,g 0 25 24 (.mov (t 0)),g 0 26 24 (.mov (t 6)),.e (some 27) (some (24,true)) (.call 121 [t 25,t 26]) [],g 0 28 24 (.fldv (t 27) 1),g 0 29 24 (.mov (t 1)),g 0 30 24 (.bin .eql (t 28) (t 29)),q 31 (.pick (t 24) (t 30) (.const (.bool false)))] (.cond (t 31) (x [m 33 0,m 34 6,e 35 (.call 161 [t 33,t 34]) [],m 32 35,q 36 (.ext (t 32) 0),q 37 (.ext (t 32) 1),m 7 36,m 8 37] (x [m 38 8] (.cond (t 38) (x [m 39 7,m 4 39,q 5 (.mov (.const (.bool true)))] .ret) .skip))) .skip))) (.reg [m 19 6,q 20 (.bin .add (t 19) (i 1)),m 6 20])))))) (x [q 4 (.mov (i 0)),q 5 (.mov (.const (.bool false)))] .ret)))
theorem e_gheap_Heap_place:EOk 109 40 m_gheap_Heap_place Tryz.f109:=fun hn h =>
 enter Tryz.func109 (c:=(Tryz.f109.body.getD .skip)) rfl (by kernel_rfl) (Nat.le_of_ble_eq_true hn) h
def m_pages_Table_Map:MC:=(x [e 7 (.box 167 (t 3)) [],q 8 (.mov (i 0)),q 9 (.mov (i 0))] (s (.block 0 (x [m 14 0,q 15 (.nilp false (t 14)),m 13 15] (.cond (t 13) (x [q 8 (.mov (i 0)),q 9 (.mov (i 2))] .ret) (x [r 0 17 (.ldn (t 7) 4),e 18 (.call 162 [t 17]) [],q 19 (.un .not (t 18)),m 20 19,n 0 21 20 (.fld (t 7) 3),p 0 22 20 (.ld (t 21)),n 0 23 20 (.bin .lss (t 22) (i 1)),q 24 (.pick (t 20) (.const (.bool true)) (t 23)),m 25 24,n 0 26 25 (.fld (t 7) 3),p 0 27 25 (.ld (t 26)),n 0 28 25 (.bin .gtr (t 27) (i 256)),q 29 (.pick (t 25) (.const (.bool true)) (t 28)),m 16 29] (.cond (t 16) (x [q 8 (.mov (i 0)),q 9 (.mov (i 1))] .ret) .skip))))) (x [m 31 0,m 32 1,m 33 2,e 34 (.call 163 [t 31,t 32,t 33]) [],m 30 34,q 35 (.ext (t 30) 0),q 36 (.ext (t 30) 1),m 1 35,m 2 36] (x [m 38 0,m 39 1,m 40 2,q 41 (.fld (t 7) 3),l 42 41,e 43 (.call 164 [t 38,t 39,t 40,t 42]) [],m 37 43,q 44 (.ext (t 37) 0),q 45 (.ext (t 37) 1),m 10 44,m 11 45] (s (x [m 46 11,q 47 (.un .not (t 46))] (.cond (t 47) (x [q 8 (.mov (i 0)),q 9 (.mov (i 5))] .ret) .skip)) (x [m 48 0,k 1 49 (.nilc (t 48)),k 2 50 (.fld (t 49) 0),r 3 51 (.ld (t 50)),k 4 52 (.mov (t 10)),r 5 53 (.ldn (t 7) 4),k 6 54 (.idx (t 51) (t 52) 4),w (.stn (t 54) (t 53) 4) []] (s (x [m 55 10,q 56 (.bin .add (t 55) (i 1)),m 12 56] (.block 1 (.loop (s (x [m 57 12,m 58 10,q 59 (.fld (t 7) 3),l 60 59,q 61 (.bin .add (t 58) (t 60)),q 62 (.bin .lss (t 57) (t 61))] (.cond (t 62) .skip (.exit 1))) (s (.block 2 (.reg [m 65 0,q 66 (.nilc (t 65)),q 67 (.fld (t 66) 0),l 68 67,m 69 12,q 70 (.bld [.int .i64 0,.int .i64 0,.int .i64 0,.int .i64 0] [(0,(1,(i 3)))]),q 71 (.idx (t 68) (t 69) 4),w (.stn (t 71) (t 70) 4) []])) (.reg [m 63 12,q 64 (.bin .add (t 63) (i 1)),m 12 64])))))) (x [m 72 10,m 8 72,q 9 (.mov (i 0))] .ret))))))))
theorem e_pages_Table_Map:EOk 110 73 m_pages_Table_Map Tryz.f110:=fun hn h =>
 enter Tryz.func110 (c:=(Tryz.f110.body.getD .skip)) rfl (by kernel_rfl) (Nat.le_of_ble_eq_true hn) h
def m_class_Base:MC:=(x [q 6 (.mov (i 0))] (s (x [m 7 0,q 8 (.bin .lss (t 7) (i 0)),m 9 8,n 0 10 9 (.mov (t 0)),n 0 11 9 (.bin .geq (t 10) (i 256)),q 12 (.pick (t 9) (.const (.bool true)) (t 11)),m 13 12,n 0 14 13 (.mov (t 2)),n 0 15 13 (.bin .lss (t 14) (i 0)),q 16 (.pick (t 13) (.const (.bool true)) (t 15)),m 17 16,n 0 18 17 (.mov (t 2)),n 0 19 17 (.mov (t 1)),.e (some 20) (some (17,false)) (.call 165 [t 19]) [],n 0 21 17 (.bin .geq (t 18) (t 20)),q 22 (.pick (t 17) (.const (.bool true)) (t 21))] (.cond (t 22) (x [q 6 (.mov (i (-1)))] .ret) .skip)) (x [m 23 0,q 24 (.bin .mul (i 256) (t 23)),m 25 1,e 26 (.call 120 [t 25]) [],m 27 2,q 28 (.bin .mul (t 26) (t 27)),q 29 (.bin .add (t 24) (t 28)),m 6 29] .ret)))
theorem e_class_Base:EOk 111 30 m_class_Base Tryz.f111:=fun hn h =>
 enter Tryz.func111 (c:=(Tryz.f111.body.getD .skip)) rfl (by kernel_rfl) (Nat.le_of_ble_eq_true hn) h
def m_object_Make:MC:=(x [e 5 (.box 103 (t 2)) [],q 6 (.mov (i 0))] (x [r 0 13 (.ldn (t 5) 2),e 14 (.call 160 [t 13]) [],m 12 14,q 15 (.ext (t 12) 0),q 16 (.ext (t 12) 1),m 7 15,m 8 16] (s (x [m 17 0,q 18 (.nilp false (t 17))] (.cond (t 18) (x [q 6 (.mov (i 2))] .ret) .skip)) (s (x [m 19 8,q 20 (.un .not (t 19))] (.cond (t 20) (x [q 6 (.mov (i 1))] .ret) .skip)) (s (x [m 22 0,m 23 1,e 24 (.call 166 [t 22,t 23]) [],m 21 24,q 25 (.ext (t 21) 0),q 26 (.ext (t 21) 1),m 9 25,m 10 26] (x [m 27 10,q 28 (.bin .neq (t 27) (i 0))] (.cond (t 28) (x [m 29 10,m 6 29] .ret) .skip))) (s (x [m 30 0,m 31 1,m 32 7,e 33 (.call 119 [t 30,t 31,t 32,.const (.int .u8 0)]) [],m 11 33] (x [m 34 11,q 35 (.bin .neq (t 34) (i 0))] (.cond (t 35) (x [m 36 11,m 6 36] .ret) .skip))) (x [m 37 0,m 38 1,r 0 39 (.ldn (t 5) 2),e 40 (.call 167 [t 39]) [],e 41 (.call 66 [t 37,t 38,t 40]) [],m 6 41] .ret)))))))
theorem e_object_Make:EOk 112 42 m_object_Make Tryz.f112:=fun hn h =>
 enter Tryz.func112 (c:=(Tryz.f112.body.getD .skip)) rfl (by kernel_rfl) (Nat.le_of_ble_eq_true hn) h
def m_bitset_Set_Put:MC:=(x [q 6 (.mov (i 0))] (s (.block 0 (x [m 21 0,q 22 (.nilp false (t 21)),m 20 22] (.cond (t 20) (x [q 6 (.mov (i 2))] .ret) (x [m 24 0,m 25 1,e 26 (.call 168 [t 24,t 25]) [],q 27 (.un .not (t 26)),m 23 27] (.cond (t 23) (x [q 6 (.mov (i 3))] .ret) (x [m 29 2,m 28 29] (.cond (t 28) (.reg [m 30 0,k 1 31 (.nilc (t 30)),k 2 32 (.fld (t 31) 0),r 3 33 (.ld (t 32)),k 4 34 (.mov (t 1)),k 5 35 (.bin .quo (t 34) (i 64)),k 6 36 (.idx (t 33) (t 35) 1),r 7 37 (.ld (t 36)),k 8 38 (.mov (t 1)),k 9 39 (.bin .rem (t 38) (i 64)),k 10 40 (.sh true (.const (.int .u64 1)) (t 39)),k 11 41 (.bin .or (t 37) (t 40)),k 12 42 (.idx (t 33) (t 35) 1),w (.st (t 42) (t 41)) []]) (.reg [m 7 0,k 1 8 (.nilc (t 7)),k 2 9 (.fld (t 8) 0),r 3 10 (.ld (t 9)),k 4 11 (.mov (t 1)),k 5 12 (.bin .quo (t 11) (i 64)),k 6 13 (.idx (t 10) (t 12) 1),r 7 14 (.ld (t 13)),k 8 15 (.mov (t 1)),k 9 16 (.bin .rem (t 15) (i 64)),k 10 17 (.sh true (.const (.int .u64 1)) (t 16)),k 11 18 (.bin .andNot (t 14) (t 17)),k 12 19 (.idx (t 10) (t 12) 1),w (.st (t 19) (t 18)) []])))))))) (x [q 6 (.mov (i 0))] .ret)))
theorem e_bitset_Set_Put:EOk 113 43 m_bitset_Set_Put Tryz.f113:=fun hn h =>
 enter Tryz.func113 (c:=(Tryz.f113.body.getD .skip)) rfl (by kernel_rfl) (Nat.le_of_ble_eq_true hn) h
def m_tumbrelref17_Bytes:MC:=(x [e 1 (.box 35 (t 0)) [],q 2 (.mov (i 0))] (s (x [q 3 (.fld (t 1) 0),l 4 3,q 5 (.bin .lss (t 4) (i 0)),m 6 5,n 0 7 6 (.fld (t 1) 1),p 0 8 6 (.ld (t 7)),n 0 9 6 (.bin .lss (t 8) (i 0)),q 10 (.pick (t 6) (.const (.bool true)) (t 9)),m 11 10,n 0 12 11 (.fld (t 1) 0),p 0 13 11 (.ld (t 12)),n 0 14 11 (.bin .gtr (t 13) (i 15)),q 15 (.pick (t 11) (.const (.bool true)) (t 14)),m 16 15,n 0 17 16 (.fld (t 1) 1),p 0 18 16 (.ld (t 17)),n 0 19 16 (.bin .gtr (t 18) (i 15)),q 20 (.pick (t 16) (.const (.bool true)) (t 19)),m 21 20,n 0 22 21 (.fld (t 1) 0),p 0 23 21 (.ld (t 22)),n 0 24 21 (.fld (t 1) 1),p 0 25 21 (.ld (t 24)),n 0 26 21 (.bin .add (t 23) (t 25)),n 0 27 21 (.bin .gtr (t 26) (i 15)),q 28 (.pick (t 21) (.const (.bool true)) (t 27))] (.cond (t 28) (x [q 2 (.mov (i 0))] .ret) .skip)) (x [q 29 (.fld (t 1) 0),l 30 29,q 31 (.bin .mul (i 8) (t 30)),q 32 (.bin .add (i 8) (t 31)),q 33 (.fld (t 1) 1),l 34 33,q 35 (.bin .mul (i 8) (t 34)),q 36 (.bin .add (t 32) (t 35)),m 2 36] .ret)))
theorem e_tumbrelref17_Bytes:EOk 114 37 m_tumbrelref17_Bytes Tryz.f114:=fun hn h =>
 enter Tryz.func114 (c:=(Tryz.f114.body.getD .skip)) rfl (by kernel_rfl) (Nat.le_of_ble_eq_true hn) h
def m_tumbrelref18_Heap_place:MC:=(x [q 4 (.mov (i 0)),q 5 (.mov (i 0))] (s (x [m 11 0,q 12 (.nilc (t 11)),q 13 (.fld (t 12) 0),l 14 13,q 15 (.nilc (t 14)),q 16 (.fld (t 15) 3),l 17 16,q 18 (.len (t 17)),q 19 (.mov (i 0))] (.block 0 (.loop (x [q 20 (.bin .lss (t 19) (t 18))] (s (.cond (t 20) .skip (.exit 0)) (s (.block 1 (x [m 21 19,q 22 (.idx (t 17) (t 19) 4),r 0 23 (.ldn (t 22) 4),e 7 (.new 175 [.int .i64 0,.int .i64 0,.int .i64 0,.int .i64 0]) [],m 6 21,w (.stn (t 7) (t 23) 4) []] (s (x [m 24 0,m 25 6,e 26 (.call 79 [t 24,t 25]) [],q 27 (.un .not (t 26)),m 28 27,n 0 29 28 (.fld (t 7) 1),p 0 30 28 (.ld (t 29)),n 0 31 28 (.mov (t 1)),n 0 32 28 (.bin .neq (t 30) (t 31)),q 33 (.pick (t 28) (.const (.bool true)) (t 32))] (.cond (t 33) (.exit 1) .skip)) (x [q 8 (.mov (i 0))] (.block 2 (.loop (s (x [m 34 8,m 35 1,e 36 (.call 169 [t 35]) [],q 37 (.bin .lss (t 34) (t 36))] (.cond (t 37) .skip (.exit 2))) (s (.block 3 (x [m 40 6,q 41 (.bin .mul (i 256) (t 40)),m 42 1,e 43 (.call 122 [t 42]) [],m 44 8,q 45 (.bin .mul (t 43) (t 44)),q 46 (.bin .add (t 41) (t 45)),m 9 46] (x [m 47 0,m 48 9,e 49 (.call 60 [t 47,t 48]) [],q 50 (.bin .lss (t 49) (i 0))] (.cond (t 50) (x [m 51 9,m 4 51,q 5 (.mov (i (-1)))] .ret) .skip)))) (.reg [m 38 8,q 39 (.bin .add (t 38) (i 1)),m 8 39]))))))))) (.reg [q 52 (.bin .add (t 19) (i 1)),m 19 52]))))))) (x [m 53 0,k 1 54 (.nilc (t 53)),k 2 55 (.fld (t 54) 0),r 3 56 (.ld (t 55)),k 4 57 (.nilc (t 56)),k 5 58 (.fld (t 57) 3),r 6 59 (.ld (t 58)),k 7 60 (.mov (t 0)),k 8 61 (.nilc (t 60)),k 9 62 (.fld (t 61) 0),r 10 63 (.ld (t 62)),k 11 64 (.nilc (t 63)),k 12 65 (.fld (t 64) 0),r 13 66 (.ld (t 65)),k 14 67 (.mov (t 0)),k 15 68 (.nilc (t 67)),k 16 69 (.fld (t 68) 0),r 17 70 (.ld (t 69)),k 18 71 (.nilc (t 70)),k 19 72 (.fld (t 71) 3),r 20 73 (.ld (t 72)),k 21 74 (.len (t 73)),e 75 (.call 133 [t 59,t 66,t 74,i 1]) [20,17,10,3],k 23 10 (.mov (t 75))] (s (x [m 76 10,q 77 (.bin .lss (t 76) (i 0))] (.cond (t 77) (x [q 4 (.mov (i (-1))),q 5 (.mov (i (-1)))] .ret) .skip)) (x [m 78 10,q 79 (.bin .mul (i 256) (t 78)),m 80 10,m 4 79,m 5 80] .ret)))))
theorem e_tumbrelref18_Heap_place:EOk 115 81 m_tumbrelref18_Heap_place Tryz.f115:=fun hn h =>
 enter Tryz.func115 (c:=(Tryz.f115.body.getD .skip)) rfl (by kernel_rfl) (Nat.le_of_ble_eq_true hn) h
def m_tumbrelref17_Class:MC:=(x [e 1 (.box 35 (t 0)) [],q 2 (.mov (i 0))] (x [q 3 (.mov (i 0)),q 4 (.mov (i 16))] (s (.block 0 (.loop (s (x [m 5 4,r 0 6 (.ldn (t 1) 2),e 7 (.call 114 [t 6]) [],q 8 (.bin .lss (t 5) (t 7))] (.cond (t 8) .skip (.exit 0))) (.block 1 (x [m 9 4,q 10 (.bin .mul (i 2) (t 9)),m 4 10] (.reg [m 11 3,q 12 (.bin .add (t 11) (i 1)),m 3 12])))))) (x [m 13 3,m 2 13] .ret))))
theorem e_tumbrelref17_Class:EOk 116 14 m_tumbrelref17_Class Tryz.f116:=fun hn h =>
 enter Tryz.func116 (c:=(Tryz.f116.body.getD .skip)) rfl (by kernel_rfl) (Nat.le_of_ble_eq_true hn) h
def m_tumbrelref04_Lay:MC:=(x [e 5 (.box 175 (t 2)) [],q 6 (.mov (.const (.slice none 0 0)))] (x [e 9 (.bs0 175) [],m 10 0,e 11 (.raw (o (.call ⟨(.builtin .append),[t 9,t 10].toArray,[118,118].toArray⟩) 118)) [],m 7 11] (s (x [m 12 1,m 8 12] (.block 0 (.loop (s (x [m 13 8,m 14 1,q 15 (.fld (t 5) 3),l 16 15,q 17 (.bin .add (t 14) (t 16)),q 18 (.bin .lss (t 13) (t 17))] (.cond (t 18) .skip (.exit 0))) (s (.block 1 (.reg [m 21 7,m 22 8,q 23 (.bld [.int .i64 0,.int .i64 0,.int .i64 0,.int .i64 0] [(0,(1,(i 3)))]),q 24 (.idx (t 21) (t 22) 4),w (.stn (t 24) (t 23) 4) []])) (.reg [m 19 8,q 20 (.bin .add (t 19) (i 1)),m 8 20])))))) (x [m 25 7,m 26 1,r 0 27 (.ldn (t 5) 4),q 28 (.idx (t 25) (t 26) 4),w (.stn (t 28) (t 27) 4) []] (x [m 29 7,m 6 29] .ret)))))
theorem e_tumbrelref04_Lay:EOk 117 30 m_tumbrelref04_Lay Tryz.f117:=fun hn h =>
 enter Tryz.func117 (c:=(Tryz.f117.body.getD .skip)) rfl (by kernel_rfl) (Nat.le_of_ble_eq_true hn) h
def m_tumbrelref17_Make:MC:=(x [e 5 (.box 35 (t 2)) [],q 6 (.mov (.const (.slice none 0 0))),q 7 (.mov (i 0))] (s (x [r 0 11 (.ldn (t 5) 2),e 12 (.call 114 [t 11]) [],q 13 (.bin .eql (t 12) (i 0))] (.cond (t 13) (x [m 14 0,m 6 14,q 7 (.mov (i 1))] .ret) .skip)) (x [m 16 0,m 17 1,e 18 (.call 151 [t 16,t 17]) [],m 15 18,q 19 (.ext (t 15) 0),q 20 (.ext (t 15) 1),m 8 19,m 9 20] (s (x [m 21 9,q 22 (.bin .neq (t 21) (i 0))] (.cond (t 22) (x [m 23 0,m 24 9,m 6 23,m 7 24] .ret) .skip)) (s (x [m 25 0,m 26 1,r 0 27 (.ldn (t 5) 2),e 28 (.call 114 [t 27]) [],e 29 (.call 153 [t 25,t 26,t 28]) [],q 30 (.un .not (t 29))] (.cond (t 30) (x [m 31 0,m 6 31,q 7 (.mov (i 3))] .ret) .skip)) (x [m 32 0,m 33 1,r 0 34 (.ldn (t 5) 2),e 35 (.call 114 [t 34]) [],e 36 (.raw (o (.makeSlice 115 (t 35) (t 35)) 115)) [],e 37 (.call 170 [t 32,t 33,t 36]) [],m 10 37] (x [m 38 10,m 39 1,r 0 40 (.ldn (t 5) 2),e 41 (.call 152 [t 40]) [],e 42 (.call 171 [i 8,t 41]) [],e 43 (.call 170 [t 38,t 39,t 42]) [],m 6 43,q 7 (.mov (i 0))] .ret)))))))
theorem e_tumbrelref17_Make:EOk 118 44 m_tumbrelref17_Make Tryz.f118:=fun hn h =>
 enter Tryz.func118 (c:=(Tryz.f118.body.getD .skip)) rfl (by kernel_rfl) (Nat.le_of_ble_eq_true hn) h
def m_arena_Arena_Fill:MC:=(x [q 8 (.mov (i 0))] (s (x [m 11 0,m 12 1,m 13 2,e 14 (.call 139 [t 11,t 12,t 13]) [],m 9 14] (x [m 15 9,q 16 (.bin .neq (t 15) (i 0))] (.cond (t 16) (x [m 17 9,m 8 17] .ret) .skip))) (s (x [m 18 1,m 10 18] (.block 0 (.loop (s (x [m 19 10,m 20 1,m 21 2,q 22 (.bin .add (t 20) (t 21)),q 23 (.bin .lss (t 19) (t 22))] (.cond (t 23) .skip (.exit 0))) (s (.block 1 (.reg [m 26 0,q 27 (.nilc (t 26)),q 28 (.fld (t 27) 0),l 29 28,m 30 10,m 31 3,q 32 (.idx (t 29) (t 30) 1),w (.st (t 32) (t 31)) []])) (.reg [m 24 10,q 25 (.bin .add (t 24) (i 1)),m 10 25])))))) (x [q 8 (.mov (i 0))] .ret))))
theorem e_arena_Arena_Fill:EOk 119 33 m_arena_Arena_Fill Tryz.f119:=fun hn h =>
 enter Tryz.func119 (c:=(Tryz.f119.body.getD .skip)) rfl (by kernel_rfl) (Nat.le_of_ble_eq_true hn) h
def m_class_Size:MC:=(x [q 2 (.mov (i 0))] (s (x [m 3 0,e 4 (.call 172 [t 3]) [],q 5 (.un .not (t 4))] (.cond (t 5) (x [q 2 (.mov (i 0))] .ret) .skip)) (x [m 6 0,q 7 (.sh true (i 16) (t 6)),m 2 7] .ret)))
theorem e_class_Size:EOk 120 8 m_class_Size Tryz.f120:=fun hn h =>
 enter Tryz.func120 (c:=(Tryz.f120.body.getD .skip)) rfl (by kernel_rfl) (Nat.le_of_ble_eq_true hn) h
def m_gheap_Heap_row:MC:=(x [e 4 (.new 167 [.int .i64 0,.int .i64 0,.int .i64 0,.int .i64 0]) []] (x [m 5 0,q 6 (.nilc (t 5)),q 7 (.fld (t 6) 0),l 8 7,e 9 (.call 73 [t 8]) [],m 10 1,e 11 (.call 142 [t 9,t 10]) [],w (.stn (t 4) (t 11) 4) []] .ret))
theorem e_gheap_Heap_row:EOk 121 12 m_gheap_Heap_row Tryz.f121:=fun hn h =>
 enter Tryz.func121 (c:=(Tryz.f121.body.getD .skip)) rfl (by kernel_rfl) (Nat.le_of_ble_eq_true hn) h
def m_tumbrelref05_Size:MC:=(x [q 2 (.mov (i 0))] (s (x [m 3 0] (.block 0 (x [q 5 (.bin .eql (t 3) (i 0)),m 4 5] (.cond (t 4) (x [q 2 (.mov (i 16))] .ret) (x [q 7 (.bin .eql (t 3) (i 1)),m 6 7] (.cond (t 6) (x [q 2 (.mov (i 32))] .ret) (x [q 9 (.bin .eql (t 3) (i 2)),m 8 9] (.cond (t 8) (x [q 2 (.mov (i 64))] .ret) (x [q 11 (.bin .eql (t 3) (i 3)),m 10 11] (.cond (t 10) (x [q 2 (.mov (i 128))] .ret) .skip)))))))))) (x [q 2 (.mov (i 0))] .ret)))
theorem e_tumbrelref05_Size:EOk 122 12 m_tumbrelref05_Size Tryz.f122:=fun hn h =>
 enter Tryz.func122 (c:=(Tryz.f122.body.getD .skip)) rfl (by kernel_rfl) (Nat.le_of_ble_eq_true hn) h
def m_bitset_Set_Count:MC:=(x [q 2 (.mov (i 0))] (x [q 3 (.mov (i 0))] (s (x [m 6 0,q 7 (.nilp false (t 6))] (.cond (t 7) (x [m 8 3,m 2 8] .ret) .skip)) (s (x [m 9 0,q 10 (.nilc (t 9)),q 11 (.fld (t 10) 0),l 12 11,q 13 (.len (t 12)),q 14 (.mov (i 0))] (.block 0 (.loop (x [q 15 (.bin .lss (t 14) (t 13))] (s (.cond (t 15) .skip (.exit 0)) (s (.block 1 (x [q 16 (.idx (t 12) (t 14) 1),l 17 16,m 5 17] (.reg [m 18 3,m 19 5,e 20 (.call 173 [t 19]) [],q 21 (.bin .add (t 18) (t 20)),m 3 21]))) (.reg [q 22 (.bin .add (t 14) (i 1)),m 14 22]))))))) (x [m 23 3,m 2 23] .ret)))))
theorem e_bitset_Set_Count:EOk 123 24 m_bitset_Set_Count Tryz.f123:=fun hn h =>
 enter Tryz.func123 (c:=(Tryz.f123.body.getD .skip)) rfl (by kernel_rfl) (Nat.le_of_ble_eq_true hn) h
def m_bitset_Set_Len:MC:=(x [q 2 (.mov (i 0))] (s (x [m 3 0,q 4 (.nilp false (t 3))] (.cond (t 4) (x [q 2 (.mov (i 0))] .ret) .skip)) (x [m 5 0,q 6 (.nilc (t 5)),q 7 (.fld (t 6) 1),l 8 7,m 2 8] .ret)))
theorem e_bitset_Set_Len:EOk 124 9 m_bitset_Set_Len Tryz.f124:=fun hn h =>
 enter Tryz.func124 (c:=(Tryz.f124.body.getD .skip)) rfl (by kernel_rfl) (Nat.le_of_ble_eq_true hn) h
def m_gheap_Heap_managed:MC:=(x [q 4 (.mov (.const (.bool false)))] (x [m 5 0,q 6 (.nilp true (t 5)),m 7 6,g 0 8 7 (.mov (t 0)),g 0 9 7 (.mov (t 1)),.e (some 10) (some (7,true)) (.call 121 [t 8,t 9]) [],g 0 11 7 (.fldv (t 10) 0),g 0 12 7 (.bin .eql (t 11) (i 4)),q 13 (.pick (t 7) (t 12) (.const (.bool false))),m 4 13] .ret))
theorem e_gheap_Heap_managed:EOk 125 14 m_gheap_Heap_managed Tryz.f125:=fun hn h =>
 enter Tryz.func125 (c:=(Tryz.f125.body.getD .skip)) rfl (by kernel_rfl) (Nat.le_of_ble_eq_true hn) h
def m_pages_Table_Unmap:MC:=(x [q 4 (.mov (i 0))] (x [m 6 0,m 7 1,e 8 (.call 142 [t 6,t 7]) [],e 5 (.new 167 [.int .i64 0,.int .i64 0,.int .i64 0,.int .i64 0]) [],w (.stn (t 5) (t 8) 4) []] (s (.block 0 (x [m 10 0,q 11 (.nilp false (t 10)),m 9 11] (.cond (t 9) (x [q 4 (.mov (i 2))] .ret) (x [r 0 13 (.ldn (t 5) 4),e 14 (.call 162 [t 13]) [],q 15 (.un .not (t 14)),m 12 15] (.cond (t 12) (x [q 4 (.mov (i 6))] .ret) .skip))))) (x [m 16 0,k 1 17 (.nilc (t 16)),k 2 18 (.fld (t 17) 0),r 3 19 (.ld (t 18)),k 4 20 (.mov (t 1)),k 5 21 (.mov (t 1)),k 6 22 (.fld (t 5) 3),r 7 23 (.ld (t 22)),k 8 24 (.bin .add (t 21) (t 23)),k 9 25 (.slc (t 19) (some (t 20)) (some (t 24)) 4),w (.raw (o (.call ⟨(.builtin .clear),[t 25].toArray,[200].toArray⟩) 0)) [7,3]] (x [q 4 (.mov (i 0))] .ret)))))
theorem e_pages_Table_Unmap:EOk 126 26 m_pages_Table_Unmap Tryz.f126:=fun hn h =>
 enter Tryz.func126 (c:=(Tryz.f126.body.getD .skip)) rfl (by kernel_rfl) (Nat.le_of_ble_eq_true hn) h
def m_tumbrelref04_Clear:MC:=(x [q 4 (.mov (.const (.slice none 0 0)))] (x [e 8 (.bs0 175) [],m 9 0,e 10 (.raw (o (.call ⟨(.builtin .append),[t 8,t 9].toArray,[118,118].toArray⟩) 118)) [],m 5 10] (x [m 11 0,m 12 1,q 13 (.idx (t 11) (t 12) 4),q 14 (.fld (t 13) 3),l 15 14,m 6 15] (s (x [m 16 1,m 7 16] (.block 0 (.loop (s (x [m 17 7,m 18 1,m 19 6,q 20 (.bin .add (t 18) (t 19)),q 21 (.bin .lss (t 17) (t 20))] (.cond (t 21) .skip (.exit 0))) (s (.block 1 (.reg [m 24 5,m 25 7,q 26 (.bld [.int .i64 0,.int .i64 0,.int .i64 0,.int .i64 0] []),q 27 (.idx (t 24) (t 25) 4),w (.stn (t 27) (t 26) 4) []])) (.reg [m 22 7,q 23 (.bin .add (t 22) (i 1)),m 7 23])))))) (x [m 28 5,m 4 28] .ret)))))
theorem e_tumbrelref04_Clear:EOk 127 29 m_tumbrelref04_Clear Tryz.f127:=fun hn h =>
 enter Tryz.func127 (c:=(Tryz.f127.body.getD .skip)) rfl (by kernel_rfl) (Nat.le_of_ble_eq_true hn) h
def m_object_ref:MC:=(x [q 6 (.mov (i 0)),q 7 (.mov (i 0))] (x [m 11 0,m 12 1,e 13 (.call 146 [t 11,t 12]) [],m 10 13,q 14 (.ext (t 10) 0),q 15 (.ext (t 10) 1),e 8 (.new 103 [.int .i64 0,.int .i64 0]) [],w (.stn (t 8) (t 14) 2) [],m 9 15] (s (x [m 16 9,q 17 (.bin .neq (t 16) (i 0))] (.cond (t 17) (x [m 18 9,q 6 (.mov (i 0)),m 7 18] .ret) .skip)) (x [m 19 1,m 20 2,q 21 (.fld (t 8) 0),l 22 21,e 23 (.call 174 [t 19,t 20,t 22,i 0]) [],q 24 (.ext (t 23) 0),q 25 (.ext (t 23) 1),m 6 24,m 7 25] .ret))))
theorem e_object_ref:EOk 128 26 m_object_ref Tryz.f128:=fun hn h =>
 enter Tryz.func128 (c:=(Tryz.f128.body.getD .skip)) rfl (by kernel_rfl) (Nat.le_of_ble_eq_true hn) h
def m_object_num:MC:=(x [q 6 (.mov (i 0)),q 7 (.mov (i 0))] (x [m 11 0,m 12 1,e 13 (.call 146 [t 11,t 12]) [],m 10 13,q 14 (.ext (t 10) 0),q 15 (.ext (t 10) 1),e 8 (.new 103 [.int .i64 0,.int .i64 0]) [],w (.stn (t 8) (t 14) 2) [],m 9 15] (s (x [m 16 9,q 17 (.bin .neq (t 16) (i 0))] (.cond (t 17) (x [m 18 9,q 6 (.mov (i 0)),m 7 18] .ret) .skip)) (x [m 19 1,m 20 2,q 21 (.fld (t 8) 1),l 22 21,q 23 (.fld (t 8) 0),l 24 23,e 25 (.call 174 [t 19,t 20,t 22,t 24]) [],q 26 (.ext (t 25) 0),q 27 (.ext (t 25) 1),m 6 26,m 7 27] .ret))))
theorem e_object_num:EOk 129 28 m_object_num Tryz.f129:=fun hn h =>
 enter Tryz.func129 (c:=(Tryz.f129.body.getD .skip)) rfl (by kernel_rfl) (Nat.le_of_ble_eq_true hn) h
def m_class_Pages:MC:=(x [q 2 (.mov (i 0)),q 3 (.mov (.const (.bool false)))] (s (x [m 4 0,e 5 (.call 175 [i 3]) [],q 6 (.bin .leq (t 4) (t 5)),m 7 6,n 0 8 7 (.mov (t 0)),n 0 9 7 (.bin .gtr (t 8) (i 4096)),q 10 (.pick (t 7) (.const (.bool true)) (t 9))] (.cond (t 10) (x [q 2 (.mov (i 0)),q 3 (.mov (.const (.bool false)))] .ret) .skip)) (x [m 11 0,q 12 (.bin .add (t 11) (i 8)),q 13 (.bin .add (t 12) (i 256)),q 14 (.bin .sub (t 13) (i 1)),q 15 (.bin .quo (t 14) (i 256)),m 2 15,q 3 (.mov (.const (.bool true)))] .ret)))
theorem e_class_Pages:EOk 130 16 m_class_Pages Tryz.f130:=fun hn h =>
 enter Tryz.func130 (c:=(Tryz.f130.body.getD .skip)) rfl (by kernel_rfl) (Nat.le_of_ble_eq_true hn) h
def m_large_Set_Make:MC:=(x [q 6 (.mov (i 0))] (x [m 12 2,e 13 (.call 130 [t 12]) [],m 11 13,q 14 (.ext (t 11) 0),q 15 (.ext (t 11) 1),m 7 14,m 8 15] (s (.block 0 (x [m 17 0,q 18 (.nilp false (t 17)),m 16 18] (.cond (t 16) (x [q 6 (.mov (i 2))] .ret) (x [m 20 8,q 21 (.un .not (t 20)),m 22 21,n 0 23 22 (.mov (t 1)),n 0 24 22 (.bin .lss (t 23) (i 0)),q 25 (.pick (t 22) (.const (.bool true)) (t 24)),m 19 25] (.cond (t 19) (x [q 6 (.mov (i 1))] .ret) (x [m 27 1,m 28 0,q 29 (.nilc (t 28)),q 30 (.fld (t 29) 0),l 31 30,e 32 (.call 95 [t 31]) [],q 33 (.bin .quo (t 32) (i 256)),m 34 7,q 35 (.bin .sub (t 33) (t 34)),q 36 (.bin .gtr (t 27) (t 35)),m 26 36] (.cond (t 26) (x [q 6 (.mov (i 3))] .ret) (x [m 38 0,m 39 1,m 40 7,e 41 (.call 176 [t 38,t 39,t 40]) [],m 37 41] (.cond (t 37) (x [q 6 (.mov (i 7))] .ret) .skip))))))))) (x [m 42 0,q 43 (.nilc (t 42)),q 44 (.fld (t 43) 0),l 45 44,m 46 1,q 47 (.bin .mul (i 256) (t 46)),m 48 7,q 49 (.bin .mul (i 256) (t 48)),e 50 (.call 119 [t 45,t 47,t 49,.const (.int .u8 0)]) []] (x [m 51 0,q 52 (.nilc (t 51)),q 53 (.fld (t 52) 2),l 54 53,m 55 1,m 56 2,w (.raw (o (.mapUpdate 197 (t 54) (t 55) (t 56)) 0)) []] (x [m 58 0,m 59 1,m 60 2,e 61 (.call 177 [t 58,t 59,t 60]) [],m 57 61,q 62 (.ext (t 57) 0),q 63 (.ext (t 57) 1),m 9 62,m 10 63] (x [m 64 0,q 65 (.nilc (t 64)),q 66 (.fld (t 65) 0),l 67 66,m 68 9,m 69 10,e 70 (.call 66 [t 67,t 68,t 69]) [],m 6 70] .ret)))))))
theorem e_large_Set_Make:EOk 131 71 m_large_Set_Make Tryz.f131:=fun hn h =>
 enter Tryz.func131 (c:=(Tryz.f131.body.getD .skip)) rfl (by kernel_rfl) (Nat.le_of_ble_eq_true hn) h
def m_tumbrelref05_Pages:MC:=(x [q 2 (.mov (i 0))] (s (x [m 4 0,q 5 (.bin .lss (t 4) (i 121)),m 6 5,n 0 7 6 (.mov (t 0)),n 0 8 6 (.bin .gtr (t 7) (i 4096)),q 9 (.pick (t 6) (.const (.bool true)) (t 8))] (.cond (t 9) (x [q 2 (.mov (i 0))] .ret) .skip)) (x [q 3 (.mov (i 1))] (s (.block 0 (.loop (s (x [m 10 3,q 11 (.bin .mul (i 256) (t 10)),m 12 0,q 13 (.bin .add (t 12) (i 8)),q 14 (.bin .lss (t 11) (t 13))] (.cond (t 14) .skip (.exit 0))) (.block 1 (.reg [m 15 3,q 16 (.bin .add (t 15) (i 1)),m 3 16]))))) (x [m 17 3,m 2 17] .ret)))))
theorem e_tumbrelref05_Pages:EOk 132 18 m_tumbrelref05_Pages Tryz.f132:=fun hn h =>
 enter Tryz.func132 (c:=(Tryz.f132.body.getD .skip)) rfl (by kernel_rfl) (Nat.le_of_ble_eq_true hn) h
def m_tumbrelref04_Place:MC:=(x [q 8 (.mov (i 0))] (s (x [m 12 0,q 13 (.len (t 12)),q 14 (.mov (i 0))] (.block 0 (.loop (x [q 15 (.bin .lss (t 14) (t 13))] (s (.cond (t 15) .skip (.exit 0)) (s (.block 1 (x [m 16 14,m 9 16] (x [m 17 3,m 18 0,q 19 (.len (t 18)),m 20 9,q 21 (.bin .sub (t 19) (t 20)),q 22 (.bin .leq (t 17) (t 21)),m 10 22] (s (x [m 23 9,m 11 23] (.block 2 (.loop (s (x [m 24 10,m 25 24,g 0 26 25 (.mov (t 11)),g 0 27 25 (.mov (t 9)),g 0 28 25 (.mov (t 3)),g 0 29 25 (.bin .add (t 27) (t 28)),g 0 30 25 (.bin .lss (t 26) (t 29)),q 31 (.pick (t 25) (t 30) (.const (.bool false)))] (.cond (t 31) .skip (.exit 2))) (s (.block 3 (.reg [m 34 11,m 35 1,m 36 2,e 37 (.call 178 [t 34,t 35,t 36]) [],m 38 37,g 0 39 38 (.mov (t 0)),g 0 40 38 (.mov (t 11)),g 0 41 38 (.idx (t 39) (t 40) 4),h 0 42 38 (.ldn (t 41) 4),g 0 43 38 (.bld [.int .i64 0,.int .i64 0,.int .i64 0,.int .i64 0] []),h 0 44 38 (.raw (o (.binOp .eql 175 (t 42) (t 43) 175) 4)),q 45 (.pick (t 38) (t 44) (.const (.bool false))),m 10 45])) (.reg [m 32 11,q 33 (.bin .add (t 32) (i 1)),m 11 33])))))) (x [m 46 10] (.cond (t 46) (x [m 47 9,m 8 47] .ret) .skip)))))) (.reg [q 48 (.bin .add (t 14) (i 1)),m 14 48]))))))) (x [q 8 (.mov (i (-1)))] .ret)))
theorem e_tumbrelref04_Place:EOk 133 49 m_tumbrelref04_Place Tryz.f133:=fun hn h =>
 enter Tryz.func133 (c:=(Tryz.f133.body.getD .skip)) rfl (by kernel_rfl) (Nat.le_of_ble_eq_true hn) h
def m_tumbrelref08_Set_Make:MC:=(x [q 6 (.mov (i 0))] (x [m 14 2,e 15 (.call 132 [t 14]) [],m 7 15] (s (x [m 16 7,q 17 (.bin .eql (t 16) (i 0)),m 18 17,n 0 19 18 (.mov (t 1)),n 0 20 18 (.bin .lss (t 19) (i 0)),q 21 (.pick (t 18) (.const (.bool true)) (t 20))] (.cond (t 21) (x [q 6 (.mov (i 1))] .ret) .skip)) (s (x [m 22 1,m 23 0,q 24 (.nilc (t 23)),q 25 (.fld (t 24) 0),l 26 25,q 27 (.len (t 26)),q 28 (.bin .quo (t 27) (i 256)),q 29 (.bin .gtr (t 22) (t 28)),m 30 29,n 0 31 30 (.mov (t 7)),n 0 32 30 (.mov (t 0)),n 0 33 30 (.nilc (t 32)),n 0 34 30 (.fld (t 33) 0),p 0 35 30 (.ld (t 34)),n 0 36 30 (.len (t 35)),n 0 37 30 (.bin .quo (t 36) (i 256)),n 0 38 30 (.mov (t 1)),n 0 39 30 (.bin .sub (t 37) (t 38)),n 0 40 30 (.bin .gtr (t 31) (t 39)),q 41 (.pick (t 30) (.const (.bool true)) (t 40))] (.cond (t 41) (x [q 6 (.mov (i 3))] .ret) .skip)) (x [q 8 (.mov (.const (.slice none 0 0)))] (s (x [m 42 0,q 43 (.nilc (t 42)),q 44 (.fld (t 43) 2),l 45 44,q 46 (.len (t 45)),q 47 (.mov (i 0))] (.block 0 (.loop (x [q 48 (.bin .lss (t 47) (t 46))] (s (.cond (t 48) .skip (.exit 0)) (s (.block 1 (x [q 49 (.idx (t 45) (t 47) 2),r 0 50 (.ldn (t 49) 2),e 10 (.new 224 [.int .i64 0,.int .i64 0]) [],w (.stn (t 10) (t 50) 2) []] (s (x [q 11 (.mov (i 0))] (.block 2 (.loop (s (x [m 51 11,m 52 7,q 53 (.bin .lss (t 51) (t 52))] (.cond (t 53) .skip (.exit 2))) (s (.block 3 (x [m 56 1,k 1 57 (.mov (t 11)),k 2 58 (.bin .add (t 56) (t 57)),k 3 59 (.fld (t 10) 0),r 4 60 (.ld (t 59)),k 5 61 (.bin .geq (t 58) (t 60)),k 6 62 (.mov (t 61)),g 7 63 62 (.mov (t 1)),g 8 64 62 (.mov (t 11)),g 9 65 62 (.bin .add (t 63) (t 64)),g 10 66 62 (.fld (t 10) 0),h 11 67 62 (.ld (t 66)),g 12 68 62 (.fld (t 10) 1),h 13 69 62 (.ld (t 68)),.e (some 70) (some (62,true)) (.call 132 [t 69]) [11,4],g 15 71 62 (.bin .add (t 67) (t 70)),g 16 72 62 (.bin .lss (t 65) (t 71)),k 17 73 (.pick (t 62) (t 72) (.const (.bool false)))] (.cond (t 73) (x [q 6 (.mov (i 7))] .ret) .skip))) (.reg [m 54 11,q 55 (.bin .add (t 54) (i 1)),m 11 55])))))) (x [q 74 (.fld (t 10) 0),l 75 74,m 76 1,q 77 (.bin .lss (t 75) (t 76))] (.cond (t 77) (.reg [m 78 8,r 0 79 (.ldn (t 10) 2),e 80 (.bs1 224 2 (t 79)) [],e 81 (.raw (o (.call ⟨(.builtin .append),[t 78,t 80].toArray,[158,158].toArray⟩) 158)) [],m 8 81]) .skip))))) (.reg [q 82 (.bin .add (t 47) (i 1)),m 47 82]))))))) (x [m 83 8,m 84 1,m 85 2,q 86 (.bld [.int .i64 0,.int .i64 0] [(0,(1,(t 84))),(1,(1,(t 85)))]),e 87 (.bs1 224 2 (t 86)) [],e 88 (.raw (o (.call ⟨(.builtin .append),[t 83,t 87].toArray,[158,158].toArray⟩) 158)) [],m 8 88] (s (x [m 89 0,q 90 (.nilc (t 89)),q 91 (.fld (t 90) 2),l 92 91,q 93 (.len (t 92)),q 94 (.mov (i 0))] (.block 4 (.loop (x [q 95 (.bin .lss (t 94) (t 93))] (s (.cond (t 95) .skip (.exit 4)) (s (.block 5 (x [q 96 (.idx (t 92) (t 94) 2),r 0 97 (.ldn (t 96) 2),e 13 (.new 224 [.int .i64 0,.int .i64 0]) [],w (.stn (t 13) (t 97) 2) []] (x [q 98 (.fld (t 13) 0),l 99 98,m 100 1,q 101 (.bin .gtr (t 99) (t 100))] (.cond (t 101) (.reg [m 102 8,r 0 103 (.ldn (t 13) 2),e 104 (.bs1 224 2 (t 103)) [],e 105 (.raw (o (.call ⟨(.builtin .append),[t 102,t 104].toArray,[158,158].toArray⟩) 158)) [],m 8 105]) .skip)))) (.reg [q 106 (.bin .add (t 94) (i 1)),m 94 106]))))))) (x [m 107 0,m 108 1,m 109 7,e 110 (.call 179 [t 107,t 108,t 109,.const (.int .u8 0)]) []] (x [m 111 0,k 1 112 (.nilc (t 111)),k 2 113 (.fld (t 112) 0),r 3 114 (.ld (t 113)),k 4 115 (.mov (t 1)),k 5 116 (.mov (t 7)),k 6 117 (.bin .add (t 115) (t 116)),k 7 118 (.bin .mul (i 256) (t 117)),k 8 119 (.bin .sub (t 118) (i 8)),k 9 120 (.slc (t 114) (some (t 119)) none 1),k 10 121 (.mov (t 0)),k 11 122 (.nilc (t 121)),k 12 123 (.fld (t 122) 1),r 13 124 (.ld (t 123)),k 14 125 (.mov (t 1)),k 15 126 (.bin .mul (i 256) (t 125)),k 16 127 (.cvi .u64 (t 126)),k 17 128 (.bin .xor (t 124) (t 127)),e 129 (.call 157 [t 128]) [13,3],e 130 (.call 171 [i 8,t 129]) [13,3],e 131 (.raw (o (.call ⟨(.builtin .copy),[t 120,t 130].toArray,[115,115].toArray⟩) 3)) [13,3]] (x [m 132 0,m 133 8,q 134 (.nilc (t 132)),q 135 (.fld (t 134) 2),w (.st (t 135) (t 133)) []] (x [q 6 (.mov (i 0))] .ret))))))))))))
theorem e_tumbrelref08_Set_Make:EOk 134 136 m_tumbrelref08_Set_Make Tryz.f134:=fun hn h =>
 enter Tryz.func134 (c:=(Tryz.f134.body.getD .skip)) rfl (by kernel_rfl) (Nat.le_of_ble_eq_true hn) h
def m_arena_Arena_word:MC:=(x [q 4 (.mov (i 0))] (s (x [m 6 0,m 7 1,e 8 (.call 139 [t 6,t 7,i 8]) [],m 5 8] (x [m 9 5,q 10 (.bin .neq (t 9) (i 0))] (.cond (t 10) (x [m 11 5,m 4 11] .ret) .skip))) (s (x [m 12 1,q 13 (.bin .rem (t 12) (i 8)),q 14 (.bin .neq (t 13) (i 0))] (.cond (t 14) (x [q 4 (.mov (i 1))] .ret) .skip)) (x [q 4 (.mov (i 0))] .ret))))
theorem e_arena_Arena_word:EOk 135 15 m_arena_Arena_word Tryz.f135:=fun hn h =>
 enter Tryz.func135 (c:=(Tryz.f135.body.getD .skip)) rfl (by kernel_rfl) (Nat.le_of_ble_eq_true hn) h
def m_num_Put:MC:=(x [q 4 (.mov (.const (.slice none 0 0)))] (s (x [m 7 0,q 8 (.bin .lss (t 7) (i 1)),m 9 8,n 0 10 9 (.mov (t 0)),n 0 11 9 (.bin .gtr (t 10) (i 8)),q 12 (.pick (t 9) (.const (.bool true)) (t 11))] (.cond (t 12) (x [q 4 (.mov (.const (.slice none 0 0)))] .ret) .skip)) (x [m 13 0,e 14 (.raw (o (.makeSlice 115 (t 13) (t 13)) 115)) [],m 5 14] (s (x [m 15 5,q 16 (.len (t 15)),q 17 (.mov (i 0))] (.block 0 (.loop (x [q 18 (.bin .lss (t 17) (t 16))] (s (.cond (t 18) .skip (.exit 0)) (s (.block 1 (x [m 19 17,m 6 19] (.reg [m 20 5,m 21 6,m 22 1,m 23 6,q 24 (.bin .mul (i 8) (t 23)),q 25 (.sh false (t 22) (t 24)),q 26 (.cvi .u8 (t 25)),q 27 (.idx (t 20) (t 21) 1),w (.st (t 27) (t 26)) []]))) (.reg [q 28 (.bin .add (t 17) (i 1)),m 17 28]))))))) (x [m 29 5,m 4 29] .ret)))))
theorem e_num_Put:EOk 136 30 m_num_Put Tryz.f136:=fun hn h =>
 enter Tryz.func136 (c:=(Tryz.f136.body.getD .skip)) rfl (by kernel_rfl) (Nat.le_of_ble_eq_true hn) h
def m_pages_Table_Longest:MC:=(x [q 6 (.mov (i 0))] (x [m 11 0,m 12 1,m 13 2,e 14 (.call 163 [t 11,t 12,t 13]) [],m 10 14,q 15 (.ext (t 10) 0),q 16 (.ext (t 10) 1),m 1 15,m 2 16] (x [q 7 (.mov (i 0)),q 8 (.mov (i 0))] (s (x [m 17 1,m 9 17] (.block 0 (.loop (s (x [m 18 9,m 19 2,q 20 (.bin .lss (t 18) (t 19))] (.cond (t 20) .skip (.exit 0))) (s (.block 1 (x [m 23 8,q 24 (.bin .add (t 23) (i 1)),m 8 24] (s (x [m 25 0,q 26 (.nilc (t 25)),q 27 (.fld (t 26) 0),l 28 27,m 29 9,q 30 (.idx (t 28) (t 29) 4),r 0 31 (.ldn (t 30) 4),e 32 (.call 180 [t 31]) [],q 33 (.un .not (t 32))] (.cond (t 33) (.reg [q 8 (.mov (i 0))]) .skip)) (.reg [m 34 7,m 35 8,q 36 (.mm true (t 34) (t 35)),m 7 36])))) (.reg [m 21 9,q 22 (.bin .add (t 21) (i 1)),m 9 22])))))) (x [m 37 7,m 6 37] .ret)))))
theorem e_pages_Table_Longest:EOk 137 38 m_pages_Table_Longest Tryz.f137:=fun hn h =>
 enter Tryz.func137 (c:=(Tryz.f137.body.getD .skip)) rfl (by kernel_rfl) (Nat.le_of_ble_eq_true hn) h
def m_slices_IndexFunc_cycle_thread_cycle_thread_:MC:=(x [q 4 (.mov (i 0))] (s (x [m 6 0,q 7 (.len (t 6)),q 8 (.mov (i 0))] (.block 0 (.loop (x [q 9 (.bin .lss (t 8) (t 7))] (s (.cond (t 9) .skip (.exit 0)) (s (.block 1 (x [m 10 8,m 5 10] (x [m 11 1,m 12 0,m 13 5,q 14 (.idx (t 12) (t 13) 2),r 0 15 (.ldn (t 14) 2),e 16 (.callv (t 11) [t 15]) []] (.cond (t 16) (x [m 17 5,m 4 17] .ret) .skip)))) (.reg [q 18 (.bin .add (t 8) (i 1)),m 8 18]))))))) (x [q 4 (.mov (i (-1)))] .ret)))
theorem e_slices_IndexFunc_cycle_thread_cycle_thread_:EOk 138 19 m_slices_IndexFunc_cycle_thread_cycle_thread_ Tryz.f138:=fun hn h =>
 enter Tryz.func138 (c:=(Tryz.f138.body.getD .skip)) rfl (by kernel_rfl) (Nat.le_of_ble_eq_true hn) h
def m_arena_Arena_in:MC:=(x [q 6 (.mov (i 0))] (s (.block 0 (x [m 8 0,q 9 (.nilp false (t 8)),m 7 9] (.cond (t 7) (x [q 6 (.mov (i 2))] .ret) (x [m 11 1,q 12 (.bin .lss (t 11) (i 0)),m 13 12,n 0 14 13 (.mov (t 2)),n 0 15 13 (.bin .lss (t 14) (i 0)),q 16 (.pick (t 13) (.const (.bool true)) (t 15)),m 17 16,n 0 18 17 (.mov (t 2)),n 0 19 17 (.mov (t 0)),n 0 20 17 (.nilc (t 19)),n 0 21 17 (.fld (t 20) 0),p 0 22 17 (.ld (t 21)),n 0 23 17 (.len (t 22)),n 0 24 17 (.bin .gtr (t 18) (t 23)),q 25 (.pick (t 17) (.const (.bool true)) (t 24)),m 26 25,n 0 27 26 (.mov (t 1)),n 0 28 26 (.mov (t 0)),n 0 29 26 (.nilc (t 28)),n 0 30 26 (.fld (t 29) 0),p 0 31 26 (.ld (t 30)),n 0 32 26 (.len (t 31)),n 0 33 26 (.mov (t 2)),n 0 34 26 (.bin .sub (t 32) (t 33)),n 0 35 26 (.bin .gtr (t 27) (t 34)),q 36 (.pick (t 26) (.const (.bool true)) (t 35)),m 10 36] (.cond (t 10) (x [q 6 (.mov (i 3))] .ret) .skip))))) (x [q 6 (.mov (i 0))] .ret)))
theorem e_arena_Arena_in:EOk 139 37 m_arena_Arena_in Tryz.f139:=fun hn h =>
 enter Tryz.func139 (c:=(Tryz.f139.body.getD .skip)) rfl (by kernel_rfl) (Nat.le_of_ble_eq_true hn) h
def m_bytes_Clone:MC:=(x [q 2 (.mov (.const (.slice none 0 0)))] (s (x [m 3 0,r 0 4 (.raw (o (.binOp .eql 115 (t 3) (.const (.slice none 0 0)) 115) 4))] (.cond (t 4) (x [q 2 (.mov (.const (.slice none 0 0)))] .ret) .skip)) (x [e 5 (.bs0 5) [],m 6 0,e 7 (.raw (o (.call ⟨(.builtin .append),[t 5,t 6].toArray,[115,115].toArray⟩) 115)) [],m 2 7] .ret)))
theorem e_bytes_Clone:EOk 140 8 m_bytes_Clone Tryz.f140:=fun hn h =>
 enter Tryz.func140 (c:=(Tryz.f140.body.getD .skip)) rfl (by kernel_rfl) (Nat.le_of_ble_eq_true hn) h
def m_pages_Table_Len:MC:=(x [q 2 (.mov (i 0))] (s (x [m 3 0,q 4 (.nilp false (t 3))] (.cond (t 4) (x [q 2 (.mov (i 0))] .ret) .skip)) (x [m 5 0,q 6 (.nilc (t 5)),q 7 (.fld (t 6) 0),l 8 7,q 9 (.len (t 8)),m 2 9] .ret)))
theorem e_pages_Table_Len:EOk 141 10 m_pages_Table_Len Tryz.f141:=fun hn h =>
 enter Tryz.func141 (c:=(Tryz.f141.body.getD .skip)) rfl (by kernel_rfl) (Nat.le_of_ble_eq_true hn) h
def m_pages_Table_Row:MC:=(x [e 4 (.new 167 [.int .i64 0,.int .i64 0,.int .i64 0,.int .i64 0]) []] (s (x [m 5 1,q 6 (.bin .lss (t 5) (i 0)),m 7 6,n 0 8 7 (.mov (t 1)),n 0 9 7 (.mov (t 0)),.e (some 10) (some (7,false)) (.call 141 [t 9]) [],n 0 11 7 (.bin .geq (t 8) (t 10)),q 12 (.pick (t 7) (.const (.bool true)) (t 11))] (.cond (t 12) (x [q 13 (.bld [.int .i64 0,.int .i64 0,.int .i64 0,.int .i64 0] []),w (.stn (t 4) (t 13) 4) []] .ret) .skip)) (x [m 14 0,q 15 (.nilc (t 14)),q 16 (.fld (t 15) 0),l 17 16,m 18 1,q 19 (.idx (t 17) (t 18) 4),r 0 20 (.ldn (t 19) 4),w (.stn (t 4) (t 20) 4) []] .ret)))
theorem e_pages_Table_Row:EOk 142 21 m_pages_Table_Row Tryz.f142:=fun hn h =>
 enter Tryz.func142 (c:=(Tryz.f142.body.getD .skip)) rfl (by kernel_rfl) (Nat.le_of_ble_eq_true hn) h
def m_tumbrellaw04_ours:MC:=(x [e 1 (.box 175 (t 0)) [],e 2 (.new 167 [.int .i64 0,.int .i64 0,.int .i64 0,.int .i64 0]) []] (x [q 3 (.fld (t 1) 0),l 4 3,q 5 (.fld (t 1) 1),l 6 5,q 7 (.fld (t 1) 2),l 8 7,q 9 (.fld (t 1) 3),l 10 9,q 11 (.bld [.int .i64 0,.int .i64 0,.int .i64 0,.int .i64 0] [(0,(1,(t 4))),(1,(1,(t 6))),(2,(1,(t 8))),(3,(1,(t 10)))]),w (.stn (t 2) (t 11) 4) []] .ret))
theorem e_tumbrellaw04_ours:EOk 143 12 m_tumbrellaw04_ours Tryz.f143:=fun hn h =>
 enter Tryz.func143 (c:=(Tryz.f143.body.getD .skip)) rfl (by kernel_rfl) (Nat.le_of_ble_eq_true hn) h
def m_gheap_places:MC:=(x [q 2 (.mov (.const (.slice none 0 0)))] (x [m 5 0,e 6 (.call 181 [t 5]) [],m 3 6] (s (x [m 7 3,q 8 (.len (t 7)),q 9 (.mov (i 0))] (.block 0 (.loop (x [q 10 (.bin .lss (t 9) (t 8))] (s (.cond (t 10) .skip (.exit 0)) (s (.block 1 (x [m 11 9,m 4 11] (.reg [m 12 3,m 13 4,q 14 (.idx (t 12) (t 13) 1),l 15 14,q 16 (.bin .mul (t 15) (i 16)),q 17 (.idx (t 12) (t 13) 1),w (.st (t 17) (t 16)) []]))) (.reg [q 18 (.bin .add (t 9) (i 1)),m 9 18]))))))) (x [m 19 3,m 2 19] .ret))))
theorem e_gheap_places:EOk 144 20 m_gheap_places Tryz.f144:=fun hn h =>
 enter Tryz.func144 (c:=(Tryz.f144.body.getD .skip)) rfl (by kernel_rfl) (Nat.le_of_ble_eq_true hn) h
def m_bitset_Set_Has:MC:=(x [q 4 (.mov (.const (.bool false)))] (x [m 5 0,m 6 1,e 7 (.call 168 [t 5,t 6]) [],m 8 7,g 0 9 8 (.mov (t 0)),g 0 10 8 (.nilc (t 9)),g 0 11 8 (.fld (t 10) 0),h 0 12 8 (.ld (t 11)),g 0 13 8 (.mov (t 1)),g 0 14 8 (.bin .quo (t 13) (i 64)),g 0 15 8 (.idx (t 12) (t 14) 1),h 0 16 8 (.ld (t 15)),g 0 17 8 (.mov (t 1)),g 0 18 8 (.bin .rem (t 17) (i 64)),g 0 19 8 (.sh false (t 16) (t 18)),g 0 20 8 (.bin .and (t 19) (.const (.int .u64 1))),g 0 21 8 (.bin .eql (t 20) (.const (.int .u64 1))),q 22 (.pick (t 8) (t 21) (.const (.bool false))),m 4 22] .ret))
theorem e_bitset_Set_Has:EOk 145 23 m_bitset_Set_Has Tryz.f145:=fun hn h =>
 enter Tryz.func145 (c:=(Tryz.f145.body.getD .skip)) rfl (by kernel_rfl) (Nat.le_of_ble_eq_true hn) h
def m_object_Head:MC:=(x [e 4 (.new 103 [.int .i64 0,.int .i64 0]) [],q 5 (.mov (i 0))] (x [m 12 0,m 13 1,e 14 (.call 166 [t 12,t 13]) [],m 11 14,q 15 (.ext (t 11) 0),q 16 (.ext (t 11) 1),m 6 15,m 7 16] (s (x [m 17 7,q 18 (.bin .neq (t 17) (i 0))] (.cond (t 18) (x [q 19 (.bld [.int .i64 0,.int .i64 0] []),m 20 7,w (.stn (t 4) (t 19) 2) [],m 5 20] .ret) .skip)) (x [m 21 6,q 22 (.bin .and (t 21) (.const (.int .u64 65535))),q 23 (.cvi .i64 (t 22)),m 24 6,q 25 (.sh false (t 24) (.const (.int .u64 16))),q 26 (.bin .and (t 25) (.const (.int .u64 65535))),q 27 (.cvi .i64 (t 26)),q 28 (.bld [.int .i64 0,.int .i64 0] [(0,(1,(t 23))),(1,(1,(t 27)))]),e 8 (.new 103 [.int .i64 0,.int .i64 0]) [],w (.stn (t 8) (t 28) 2) []] (x [r 0 30 (.ldn (t 8) 2),e 31 (.call 160 [t 30]) [],m 29 31,q 32 (.ext (t 29) 0),q 33 (.ext (t 29) 1),m 9 32,m 10 33] (s (x [m 34 10,q 35 (.un .not (t 34)),m 36 35,p 0 37 36 (.ldn (t 8) 2),.e (some 38) (some (36,false)) (.call 167 [t 37]) [],n 0 39 36 (.mov (t 6)),n 0 40 36 (.bin .neq (t 38) (t 39)),q 41 (.pick (t 36) (.const (.bool true)) (t 40)),m 42 41,n 0 43 42 (.mov (t 9)),n 0 44 42 (.mov (t 0)),.e (some 45) (some (42,false)) (.call 95 [t 44]) [],n 0 46 42 (.mov (t 1)),n 0 47 42 (.bin .sub (t 45) (t 46)),n 0 48 42 (.bin .gtr (t 43) (t 47)),q 49 (.pick (t 42) (.const (.bool true)) (t 48))] (.cond (t 49) (x [q 50 (.bld [.int .i64 0,.int .i64 0] []),w (.stn (t 4) (t 50) 2) [],q 5 (.mov (i 4))] .ret) .skip)) (x [r 0 51 (.ldn (t 8) 2),w (.stn (t 4) (t 51) 2) [],q 5 (.mov (i 0))] .ret)))))))
theorem e_object_Head:EOk 146 52 m_object_Head Tryz.f146:=fun hn h =>
 enter Tryz.func146 (c:=(Tryz.f146.body.getD .skip)) rfl (by kernel_rfl) (Nat.le_of_ble_eq_true hn) h
def m_object_Ref:MC:=(x [q 6 (.mov (i 0)),q 7 (.mov (i 0))] (x [m 12 0,m 13 1,m 14 2,e 15 (.call 128 [t 12,t 13,t 14]) [],m 11 15,q 16 (.ext (t 11) 0),q 17 (.ext (t 11) 1),m 8 16,m 9 17] (s (x [m 18 9,q 19 (.bin .neq (t 18) (i 0))] (.cond (t 19) (x [m 20 9,q 6 (.mov (i 0)),m 7 20] .ret) .skip)) (x [m 22 0,m 23 8,e 24 (.call 166 [t 22,t 23]) [],m 21 24,q 25 (.ext (t 21) 0),q 26 (.ext (t 21) 1),m 10 25,m 9 26] (x [m 27 10,q 28 (.cvi .i64 (t 27)),q 29 (.bin .sub (t 28) (i 1)),m 30 9,m 6 29,m 7 30] .ret)))))
theorem e_object_Ref:EOk 147 31 m_object_Ref Tryz.f147:=fun hn h =>
 enter Tryz.func147 (c:=(Tryz.f147.body.getD .skip)) rfl (by kernel_rfl) (Nat.le_of_ble_eq_true hn) h
def m_tumbrelref03_Word:MC:=(x [q 4 (.mov (.const (.int .u64 0))),q 5 (.mov (i 0))] (s (x [m 6 0,m 7 1,e 8 (.call 153 [t 6,t 7,i 8]) [],q 9 (.un .not (t 8))] (.cond (t 9) (x [q 4 (.mov (.const (.int .u64 0))),q 5 (.mov (i 3))] .ret) .skip)) (s (x [m 10 1,q 11 (.bin .rem (t 10) (i 8)),q 12 (.bin .gtr (t 11) (i 0))] (.cond (t 12) (x [q 4 (.mov (.const (.int .u64 0))),q 5 (.mov (i 1))] .ret) .skip)) (x [m 13 0,m 14 1,m 15 1,q 16 (.bin .add (t 15) (i 8)),q 17 (.slc (t 13) (some (t 14)) (some (t 16)) 1),e 18 (.call 86 [t 17]) [],m 4 18,q 5 (.mov (i 0))] .ret))))
theorem e_tumbrelref03_Word:EOk 151 19 m_tumbrelref03_Word Tryz.f151:=fun hn h =>
 enter Tryz.func151 (c:=(Tryz.f151.body.getD .skip)) rfl (by kernel_rfl) (Nat.le_of_ble_eq_true hn) h
def m_tumbrelref17_Word:MC:=(x [e 1 (.box 35 (t 0)) [],q 2 (.mov (.const (.int .u64 0)))] (x [q 3 (.fld (t 1) 1),l 4 3,q 5 (.cvi .u64 (t 4)),q 6 (.bin .mul (t 5) (.const (.int .u64 65536))),q 7 (.bin .add (.const (.int .u64 801077783718526976)) (t 6)),q 8 (.fld (t 1) 0),l 9 8,q 10 (.cvi .u64 (t 9)),q 11 (.bin .add (t 7) (t 10)),m 2 11] .ret))
theorem e_tumbrelref17_Word:EOk 152 12 m_tumbrelref17_Word Tryz.f152:=fun hn h =>
 enter Tryz.func152 (c:=(Tryz.f152.body.getD .skip)) rfl (by kernel_rfl) (Nat.le_of_ble_eq_true hn) h
def m_tumbrelref03_In:MC:=(x [q 6 (.mov (.const (.bool false)))] (x [m 7 1,q 8 (.bin .geq (t 7) (i 0)),m 9 8,g 0 10 9 (.mov (t 2)),g 0 11 9 (.bin .geq (t 10) (i 0)),q 12 (.pick (t 9) (t 11) (.const (.bool false))),m 13 12,g 0 14 13 (.mov (t 2)),g 0 15 13 (.mov (t 0)),g 0 16 13 (.len (t 15)),g 0 17 13 (.bin .leq (t 14) (t 16)),q 18 (.pick (t 13) (t 17) (.const (.bool false))),m 19 18,g 0 20 19 (.mov (t 1)),g 0 21 19 (.mov (t 0)),g 0 22 19 (.len (t 21)),g 0 23 19 (.mov (t 2)),g 0 24 19 (.bin .sub (t 22) (t 23)),g 0 25 19 (.bin .leq (t 20) (t 24)),q 26 (.pick (t 19) (t 25) (.const (.bool false))),m 6 26] .ret))
theorem e_tumbrelref03_In:EOk 153 27 m_tumbrelref03_In Tryz.f153:=fun hn h =>
 enter Tryz.func153 (c:=(Tryz.f153.body.getD .skip)) rfl (by kernel_rfl) (Nat.le_of_ble_eq_true hn) h
def m_link_mix:MC:=(x [q 2 (.mov (.const (.int .u64 0)))] (x [m 3 0,m 4 0,q 5 (.sh false (t 4) (.const (.int .u64 30))),q 6 (.bin .xor (t 3) (t 5)),q 7 (.bin .mul (t 6) (.const (.int .u64 13787848793156543929))),m 0 7] (x [m 8 0,m 9 0,q 10 (.sh false (t 9) (.const (.int .u64 27))),q 11 (.bin .xor (t 8) (t 10)),q 12 (.bin .mul (t 11) (.const (.int .u64 10723151780598845931))),m 0 12] (x [m 13 0,m 14 0,q 15 (.sh false (t 14) (.const (.int .u64 31))),q 16 (.bin .xor (t 13) (t 15)),m 2 16] .ret))))
theorem e_link_mix:EOk 156 17 m_link_mix Tryz.f156:=fun hn h =>
 enter Tryz.func156 (c:=(Tryz.f156.body.getD .skip)) rfl (by kernel_rfl) (Nat.le_of_ble_eq_true hn) h
def m_tumbrelref06_Mix:MC:=(x [q 2 (.mov (.const (.int .u64 0)))] (x [m 3 0,m 4 0,q 5 (.bin .quo (t 4) (.const (.int .u64 1073741824))),q 6 (.bin .xor (t 3) (t 5)),m 0 6] (x [m 7 0,q 8 (.bin .mul (t 7) (.const (.int .u64 13787848793156543929))),m 0 8] (x [m 9 0,m 10 0,q 11 (.bin .quo (t 10) (.const (.int .u64 134217728))),q 12 (.bin .xor (t 9) (t 11)),m 0 12] (x [m 13 0,q 14 (.bin .mul (t 13) (.const (.int .u64 10723151780598845931))),m 0 14] (x [m 15 0,m 16 0,q 17 (.bin .quo (t 16) (.const (.int .u64 2147483648))),q 18 (.bin .xor (t 15) (t 17)),m 2 18] .ret))))))
theorem e_tumbrelref06_Mix:EOk 157 19 m_tumbrelref06_Mix Tryz.f157:=fun hn h =>
 enter Tryz.func157 (c:=(Tryz.f157.body.getD .skip)) rfl (by kernel_rfl) (Nat.le_of_ble_eq_true hn) h
def m_mark_Marker_note:MC:=(x [m 4 0,q 5 (.nilc (t 4)),q 6 (.fld (t 5) 0),l 7 6,m 8 1,e 9 (.call 55 [t 7,t 8]) []] (.cond (t 9) (.reg [m 10 0,m 11 0,q 12 (.nilc (t 11)),q 13 (.fld (t 12) 1),l 14 13,m 15 1,e 16 (.bs1 3 1 (t 15)) [],e 17 (.raw (o (.call ⟨(.builtin .append),[t 14,t 16].toArray,[38,38].toArray⟩) 38)) [],q 18 (.nilc (t 10)),q 19 (.fld (t 18) 1),w (.st (t 19) (t 17)) []]) .skip))
theorem e_mark_Marker_note:EOk 158 20 m_mark_Marker_note Tryz.f158:=fun hn h =>
 enter Tryz.func158 (c:=(Tryz.f158.body.getD .skip)) rfl (by kernel_rfl) (Nat.le_of_ble_eq_true hn) h
def m_sweep_Sweeper_page:MC:=(x [q 4 (.mov (i 0))] (x [q 5 (.mov (i 0))] (s (x [m 8 0,q 9 (.nilc (t 8)),q 10 (.fld (t 9) 0),l 11 10,m 12 1,e 13 (.call 77 [t 11,t 12]) [],q 14 (.len (t 13)),q 15 (.mov (i 0))] (.block 0 (.loop (x [q 16 (.bin .lss (t 15) (t 14))] (s (.cond (t 16) .skip (.exit 0)) (s (.block 1 (x [q 17 (.idx (t 13) (t 15) 1),l 18 17,m 7 18] (x [m 19 0,q 20 (.nilc (t 19)),q 21 (.fld (t 20) 0),l 22 21,m 23 7,e 24 (.call 76 [t 22,t 23]) [],q 25 (.un .not (t 24))] (.cond (t 25) (x [m 26 0,q 27 (.nilc (t 26)),q 28 (.fld (t 27) 0),l 29 28,m 30 7,e 31 (.call 53 [t 29,t 30]) []] (.reg [m 32 5,q 33 (.bin .add (t 32) (i 1)),m 5 33])) .skip)))) (.reg [q 34 (.bin .add (t 15) (i 1)),m 15 34]))))))) (x [m 35 0,q 36 (.nilc (t 35)),q 37 (.fld (t 36) 0),l 38 37,m 39 1,e 40 (.call 58 [t 38,t 39]) []] (x [m 41 5,m 4 41] .ret)))))
theorem e_sweep_Sweeper_page:EOk 159 42 m_sweep_Sweeper_page Tryz.f159:=fun hn h =>
 enter Tryz.func159 (c:=(Tryz.f159.body.getD .skip)) rfl (by kernel_rfl) (Nat.le_of_ble_eq_true hn) h
def m_object_Shape_Bytes:MC:=(x [e 1 (.box 103 (t 0)) [],q 2 (.mov (i 0)),q 3 (.mov (.const (.bool false)))] (s (x [r 0 4 (.ldn (t 1) 2),e 5 (.call 186 [t 4]) [],q 6 (.un .not (t 5))] (.cond (t 6) (x [q 2 (.mov (i 0)),q 3 (.mov (.const (.bool false)))] .ret) .skip)) (x [q 7 (.fld (t 1) 0),l 8 7,q 9 (.bin .add (i 1) (t 8)),q 10 (.fld (t 1) 1),l 11 10,q 12 (.bin .add (t 9) (t 11)),q 13 (.bin .mul (i 8) (t 12)),m 2 13,q 3 (.mov (.const (.bool true)))] .ret)))
theorem e_object_Shape_Bytes:EOk 160 14 m_object_Shape_Bytes Tryz.f160:=fun hn h =>
 enter Tryz.func160 (c:=(Tryz.f160.body.getD .skip)) rfl (by kernel_rfl) (Nat.le_of_ble_eq_true hn) h
def m_gheap_Heap_slot:MC:=(x [q 4 (.mov (i 0)),q 5 (.mov (.const (.bool false)))] (x [m 9 0,m 10 1,e 11 (.call 121 [t 9,t 10]) [],q 12 (.fldv (t 11) 1),m 6 12] (s (x [m 13 6,e 14 (.call 165 [t 13]) [],q 15 (.mov (i 0))] (.block 0 (.loop (x [q 16 (.bin .lss (t 15) (t 14))] (s (.cond (t 16) .skip (.exit 0)) (s (.block 1 (x [m 17 15,m 7 17] (x [m 18 1,m 19 6,m 20 7,e 21 (.call 111 [t 18,t 19,t 20]) [],m 8 21] (x [m 22 0,q 23 (.nilc (t 22)),q 24 (.fld (t 23) 3),l 25 24,m 26 8,q 27 (.bin .quo (t 26) (i 16)),e 28 (.call 145 [t 25,t 27]) [],q 29 (.un .not (t 28))] (.cond (t 29) (x [m 30 8,m 4 30,q 5 (.mov (.const (.bool true)))] .ret) .skip))))) (.reg [q 31 (.bin .add (t 15) (i 1)),m 15 31]))))))) (x [q 4 (.mov (i 0)),q 5 (.mov (.const (.bool false)))] .ret))))
theorem e_gheap_Heap_slot:EOk 161 32 m_gheap_Heap_slot Tryz.f161:=fun hn h =>
 enter Tryz.func161 (c:=(Tryz.f161.body.getD .skip)) rfl (by kernel_rfl) (Nat.le_of_ble_eq_true hn) h
def m_pages_Row_first:MC:=(x [e 1 (.box 167 (t 0)) [],q 2 (.mov (.const (.bool false)))] (x [q 3 (.fld (t 1) 0),l 4 3,q 5 (.bin .eql (t 4) (i 1)),m 6 5,n 0 7 6 (.fld (t 1) 0),p 0 8 6 (.ld (t 7)),n 0 9 6 (.bin .eql (t 8) (i 2)),q 10 (.pick (t 6) (.const (.bool true)) (t 9)),m 11 10,n 0 12 11 (.fld (t 1) 0),p 0 13 11 (.ld (t 12)),n 0 14 11 (.bin .eql (t 13) (i 4)),q 15 (.pick (t 11) (.const (.bool true)) (t 14)),m 2 15] .ret))
theorem e_pages_Row_first:EOk 162 16 m_pages_Row_first Tryz.f162:=fun hn h =>
 enter Tryz.func162 (c:=(Tryz.f162.body.getD .skip)) rfl (by kernel_rfl) (Nat.le_of_ble_eq_true hn) h
def m_pages_Table_cut:MC:=(x [q 6 (.mov (i 0)),q 7 (.mov (i 0))] (x [m 8 1,q 9 (.mm true (t 8) (i 0)),m 10 2,m 11 0,e 12 (.call 141 [t 11]) [],q 13 (.mm false (t 10) (t 12)),m 1 9,m 2 13] (x [m 14 1,m 15 1,m 16 2,q 17 (.mm true (t 15) (t 16)),m 6 14,m 7 17] .ret)))
theorem e_pages_Table_cut:EOk 163 18 m_pages_Table_cut Tryz.f163:=fun hn h =>
 enter Tryz.func163 (c:=(Tryz.f163.body.getD .skip)) rfl (by kernel_rfl) (Nat.le_of_ble_eq_true hn) h
def m_pages_Table_place:MC:=(x [q 8 (.mov (i 0)),q 9 (.mov (.const (.bool false)))] (x [q 10 (.mov (i 0))] (s (x [m 12 1,m 11 12] (.block 0 (.loop (s (x [m 13 11,m 14 2,q 15 (.bin .lss (t 13) (t 14))] (.cond (t 15) .skip (.exit 0))) (s (.block 1 (x [m 18 10,q 19 (.bin .add (t 18) (i 1)),m 10 19] (s (x [m 20 0,q 21 (.nilc (t 20)),q 22 (.fld (t 21) 0),l 23 22,m 24 11,q 25 (.idx (t 23) (t 24) 4),r 0 26 (.ldn (t 25) 4),e 27 (.call 180 [t 26]) [],q 28 (.un .not (t 27))] (.cond (t 28) (.reg [q 10 (.mov (i 0))]) .skip)) (x [m 29 10,m 30 3,q 31 (.bin .eql (t 29) (t 30))] (.cond (t 31) (x [m 32 11,m 33 3,q 34 (.bin .sub (t 32) (t 33)),q 35 (.bin .add (t 34) (i 1)),m 8 35,q 9 (.mov (.const (.bool true)))] .ret) .skip))))) (.reg [m 16 11,q 17 (.bin .add (t 16) (i 1)),m 11 17])))))) (x [q 8 (.mov (i 0)),q 9 (.mov (.const (.bool false)))] .ret))))
theorem e_pages_Table_place:EOk 164 36 m_pages_Table_place Tryz.f164:=fun hn h =>
 enter Tryz.func164 (c:=(Tryz.f164.body.getD .skip)) rfl (by kernel_rfl) (Nat.le_of_ble_eq_true hn) h
def m_class_Slots:MC:=(x [q 2 (.mov (i 0))] (s (x [m 3 0,e 4 (.call 172 [t 3]) [],q 5 (.un .not (t 4))] (.cond (t 5) (x [q 2 (.mov (i 0))] .ret) .skip)) (x [m 6 0,e 7 (.call 120 [t 6]) [],q 8 (.bin .quo (i 256) (t 7)),m 2 8] .ret)))
theorem e_class_Slots:EOk 165 9 m_class_Slots Tryz.f165:=fun hn h =>
 enter Tryz.func165 (c:=(Tryz.f165.body.getD .skip)) rfl (by kernel_rfl) (Nat.le_of_ble_eq_true hn) h
def m_arena_Arena_Word:MC:=(x [q 4 (.mov (.const (.int .u64 0))),q 5 (.mov (i 0))] (s (x [m 7 0,m 8 1,e 9 (.call 135 [t 7,t 8]) [],m 6 9] (x [m 10 6,q 11 (.bin .neq (t 10) (i 0))] (.cond (t 11) (x [m 12 6,q 4 (.mov (.const (.int .u64 0))),m 5 12] .ret) .skip))) (x [m 13 0,q 14 (.nilc (t 13)),q 15 (.fld (t 14) 0),l 16 15,m 17 1,m 18 1,q 19 (.bin .add (t 18) (i 8)),q 20 (.slc (t 16) (some (t 17)) (some (t 19)) 1),e 21 (.call 187 [t 20]) [],m 4 21,q 5 (.mov (i 0))] .ret)))
theorem e_arena_Arena_Word:EOk 166 22 m_arena_Arena_Word Tryz.f166:=fun hn h =>
 enter Tryz.func166 (c:=(Tryz.f166.body.getD .skip)) rfl (by kernel_rfl) (Nat.le_of_ble_eq_true hn) h
def m_object_Shape_word:MC:=(x [e 1 (.box 103 (t 0)) [],q 2 (.mov (.const (.int .u64 0)))] (x [q 3 (.fld (t 1) 1),l 4 3,q 5 (.cvi .u64 (t 4)),q 6 (.sh true (t 5) (.const (.int .u64 16))),q 7 (.bin .or (.const (.int .u64 801077783718526976)) (t 6)),q 8 (.fld (t 1) 0),l 9 8,q 10 (.cvi .u64 (t 9)),q 11 (.bin .or (t 7) (t 10)),m 2 11] .ret))
theorem e_object_Shape_word:EOk 167 12 m_object_Shape_word Tryz.f167:=fun hn h =>
 enter Tryz.func167 (c:=(Tryz.f167.body.getD .skip)) rfl (by kernel_rfl) (Nat.le_of_ble_eq_true hn) h
def m_bitset_Set_in:MC:=(x [q 4 (.mov (.const (.bool false)))] (x [m 5 1,q 6 (.bin .geq (t 5) (i 0)),m 7 6,g 0 8 7 (.mov (t 1)),g 0 9 7 (.mov (t 0)),.e (some 10) (some (7,true)) (.call 124 [t 9]) [],g 0 11 7 (.bin .lss (t 8) (t 10)),q 12 (.pick (t 7) (t 11) (.const (.bool false))),m 4 12] .ret))
theorem e_bitset_Set_in:EOk 168 13 m_bitset_Set_in Tryz.f168:=fun hn h =>
 enter Tryz.func168 (c:=(Tryz.f168.body.getD .skip)) rfl (by kernel_rfl) (Nat.le_of_ble_eq_true hn) h
def m_tumbrelref05_Slots:MC:=(x [q 2 (.mov (i 0))] (x [q 3 (.mov (i 0))] (s (.block 0 (.loop (s (x [m 4 0,e 5 (.call 122 [t 4]) [],q 6 (.bin .gtr (t 5) (i 0)),m 7 6,g 0 8 7 (.mov (t 3)),g 0 9 7 (.bin .add (t 8) (i 1)),g 0 10 7 (.mov (t 0)),.e (some 11) (some (7,true)) (.call 122 [t 10]) [],g 0 12 7 (.bin .mul (t 9) (t 11)),g 0 13 7 (.bin .leq (t 12) (i 256)),q 14 (.pick (t 7) (t 13) (.const (.bool false)))] (.cond (t 14) .skip (.exit 0))) (.block 1 (.reg [m 15 3,q 16 (.bin .add (t 15) (i 1)),m 3 16]))))) (x [m 17 3,m 2 17] .ret))))
theorem e_tumbrelref05_Slots:EOk 169 18 m_tumbrelref05_Slots Tryz.f169:=fun hn h =>
 enter Tryz.func169 (c:=(Tryz.f169.body.getD .skip)) rfl (by kernel_rfl) (Nat.le_of_ble_eq_true hn) h
def m_tumbrelref03_With:MC:=(x [q 6 (.mov (.const (.slice none 0 0)))] (x [e 8 (.bs0 5) [],m 9 0,e 10 (.raw (o (.call ⟨(.builtin .append),[t 8,t 9].toArray,[115,115].toArray⟩) 115)) [],m 7 10] (x [m 11 7,m 12 1,q 13 (.slc (t 11) (some (t 12)) none 1),m 14 2,e 15 (.raw (o (.call ⟨(.builtin .copy),[t 13,t 14].toArray,[115,115].toArray⟩) 3)) []] (x [m 16 7,m 6 16] .ret))))
theorem e_tumbrelref03_With:EOk 170 17 m_tumbrelref03_With Tryz.f170:=fun hn h =>
 enter Tryz.func170 (c:=(Tryz.f170.body.getD .skip)) rfl (by kernel_rfl) (Nat.le_of_ble_eq_true hn) h
def m_tumbrelref01_Put:MC:=(x [q 4 (.mov (.const (.slice none 0 0)))] (x [q 5 (.mov (.const (.slice none 0 0)))] (s (x [q 6 (.mov (i 0))] (.block 0 (.loop (s (x [m 7 6,m 8 0,q 9 (.bin .lss (t 7) (t 8)),m 10 9,g 0 11 10 (.mov (t 0)),g 0 12 10 (.bin .leq (t 11) (i 8)),q 13 (.pick (t 10) (t 12) (.const (.bool false)))] (.cond (t 13) .skip (.exit 0))) (s (.block 1 (x [m 16 5,m 17 1,q 18 (.bin .rem (t 17) (.const (.int .u64 256))),q 19 (.cvi .u8 (t 18)),e 20 (.bs1 5 1 (t 19)) [],e 21 (.raw (o (.call ⟨(.builtin .append),[t 16,t 20].toArray,[115,115].toArray⟩) 115)) [],m 5 21] (.reg [m 22 1,q 23 (.bin .quo (t 22) (.const (.int .u64 256))),m 1 23]))) (.reg [m 14 6,q 15 (.bin .add (t 14) (i 1)),m 6 15])))))) (x [m 24 5,m 4 24] .ret))))
theorem e_tumbrelref01_Put:EOk 171 25 m_tumbrelref01_Put Tryz.f171:=fun hn h =>
 enter Tryz.func171 (c:=(Tryz.f171.body.getD .skip)) rfl (by kernel_rfl) (Nat.le_of_ble_eq_true hn) h
def m_class_may:MC:=(x [q 2 (.mov (.const (.bool false)))] (x [m 3 0,q 4 (.bin .geq (t 3) (i 0)),m 5 4,g 0 6 5 (.mov (t 0)),g 0 7 5 (.bin .lss (t 6) (i 4)),q 8 (.pick (t 5) (t 7) (.const (.bool false))),m 2 8] .ret))
theorem e_class_may:EOk 172 9 m_class_may Tryz.f172:=fun hn h =>
 enter Tryz.func172 (c:=(Tryz.f172.body.getD .skip)) rfl (by kernel_rfl) (Nat.le_of_ble_eq_true hn) h
def m_math_bits_OnesCount64:MC:=(x [q 2 (.mov (i 0))] (x [m 3 0,q 4 (.sh false (t 3) (.const (.int .u64 1))),q 5 (.bin .and (t 4) (.const (.int .u64 6148914691236517205))),m 6 0,q 7 (.bin .and (t 6) (.const (.int .u64 6148914691236517205))),q 8 (.bin .add (t 5) (t 7)),m 0 8] (x [m 9 0,q 10 (.sh false (t 9) (.const (.int .u64 2))),q 11 (.bin .and (t 10) (.const (.int .u64 3689348814741910323))),m 12 0,q 13 (.bin .and (t 12) (.const (.int .u64 3689348814741910323))),q 14 (.bin .add (t 11) (t 13)),m 0 14] (x [m 15 0,q 16 (.sh false (t 15) (.const (.int .u64 4))),m 17 0,q 18 (.bin .add (t 16) (t 17)),q 19 (.bin .and (t 18) (.const (.int .u64 1085102592571150095))),m 0 19] (x [m 20 0,m 21 0,q 22 (.sh false (t 21) (.const (.int .u64 8))),q 23 (.bin .add (t 20) (t 22)),m 0 23] (x [m 24 0,m 25 0,q 26 (.sh false (t 25) (.const (.int .u64 16))),q 27 (.bin .add (t 24) (t 26)),m 0 27] (x [m 28 0,m 29 0,q 30 (.sh false (t 29) (.const (.int .u64 32))),q 31 (.bin .add (t 28) (t 30)),m 0 31] (x [m 32 0,q 33 (.cvi .i64 (t 32)),q 34 (.bin .and (t 33) (i 127)),m 2 34] .ret))))))))
theorem e_math_bits_OnesCount64:EOk 173 35 m_math_bits_OnesCount64 Tryz.f173:=fun hn h =>
 enter Tryz.func173 (c:=(Tryz.f173.body.getD .skip)) rfl (by kernel_rfl) (Nat.le_of_ble_eq_true hn) h
def m_object_field:MC:=(x [q 8 (.mov (i 0)),q 9 (.mov (i 0))] (s (x [m 10 1,q 11 (.bin .lss (t 10) (i 0)),m 12 11,n 0 13 12 (.mov (t 1)),n 0 14 12 (.mov (t 2)),n 0 15 12 (.bin .geq (t 13) (t 14)),q 16 (.pick (t 12) (.const (.bool true)) (t 15))] (.cond (t 16) (x [q 8 (.mov (i 0)),q 9 (.mov (i 3))] .ret) .skip)) (x [m 17 0,m 18 3,q 19 (.bin .add (i 1) (t 18)),m 20 1,q 21 (.bin .add (t 19) (t 20)),q 22 (.bin .mul (i 8) (t 21)),q 23 (.bin .add (t 17) (t 22)),m 8 23,q 9 (.mov (i 0))] .ret)))
theorem e_object_field:EOk 174 24 m_object_field Tryz.f174:=fun hn h =>
 enter Tryz.func174 (c:=(Tryz.f174.body.getD .skip)) rfl (by kernel_rfl) (Nat.le_of_ble_eq_true hn) h
def m_class_Room:MC:=(x [q 2 (.mov (i 0))] (x [m 3 0,e 4 (.call 120 [t 3]) [],q 5 (.bin .sub (t 4) (i 8)),q 6 (.mm true (t 5) (i 0)),m 2 6] .ret))
theorem e_class_Room:EOk 175 7 m_class_Room Tryz.f175:=fun hn h =>
 enter Tryz.func175 (c:=(Tryz.f175.body.getD .skip)) rfl (by kernel_rfl) (Nat.le_of_ble_eq_true hn) h
def m_large_Set_meets:MC:=(x [q 6 (.mov (.const (.bool false)))] (s (x [m 9 0,q 10 (.nilc (t 9)),q 11 (.fld (t 10) 2),l 12 11,e 13 (.raw (o (.range 197 (t 12)) 0)) []] (.block 0 (.loop (x [e 14 (.raw (o (.next (t 13) false) 0)) [],q 15 (.ext (t 14) 0)] (s (.cond (t 15) .skip (.exit 0)) (.block 1 (x [e 16 (.raw (o (.entry (t 13)) 0)) [],q 17 (.ext (t 16) 0),q 18 (.ext (t 16) 1),m 7 17,m 8 18] (x [m 19 1,m 20 7,m 21 8,e 22 (.call 188 [t 21]) [],q 23 (.bin .add (t 20) (t 22)),q 24 (.bin .lss (t 19) (t 23)),m 25 24,g 0 26 25 (.mov (t 7)),g 0 27 25 (.mov (t 1)),g 0 28 25 (.mov (t 2)),g 0 29 25 (.bin .add (t 27) (t 28)),g 0 30 25 (.bin .lss (t 26) (t 29)),q 31 (.pick (t 25) (t 30) (.const (.bool false)))] (.cond (t 31) (x [q 6 (.mov (.const (.bool true)))] .ret) .skip))))))))) (x [q 6 (.mov (.const (.bool false)))] .ret)))
theorem e_large_Set_meets:EOk 176 32 m_large_Set_meets Tryz.f176:=fun hn h =>
 enter Tryz.func176 (c:=(Tryz.f176.body.getD .skip)) rfl (by kernel_rfl) (Nat.le_of_ble_eq_true hn) h
def m_large_Set_canary:MC:=(x [q 6 (.mov (i 0)),q 7 (.mov (.const (.int .u64 0)))] (x [m 8 1,k 1 9 (.mov (t 2)),k 6 14 (.mov (t 0)),k 7 15 (.nilc (t 14)),k 8 16 (.fld (t 15) 1),r 9 17 (.ldn (t 16) 1),k 10 18 (.mov (t 1)),k 11 19 (.bin .mul (i 256) (t 18)),e 10 (.call 188 [t 9]) [9],k 3 11 (.bin .add (t 8) (t 10)),k 4 12 (.bin .mul (i 256) (t 11)),k 5 13 (.bin .sub (t 12) (i 8)),e 20 (.call 189 [t 17,t 19]) [],k 13 6 (.mov (t 13)),k 14 7 (.mov (t 20))] .ret))
theorem e_large_Set_canary:EOk 177 21 m_large_Set_canary Tryz.f177:=fun hn h =>
 enter Tryz.func177 (c:=(Tryz.f177.body.getD .skip)) rfl (by kernel_rfl) (Nat.le_of_ble_eq_true hn) h
def m_tumbrelref04_In:MC:=(x [q 6 (.mov (.const (.bool false)))] (x [m 7 0,m 8 1,q 9 (.bin .geq (t 7) (t 8)),m 10 9,g 0 11 10 (.mov (t 0)),g 0 12 10 (.mov (t 2)),g 0 13 10 (.bin .lss (t 11) (t 12)),q 14 (.pick (t 10) (t 13) (.const (.bool false))),m 6 14] .ret))
theorem e_tumbrelref04_In:EOk 178 15 m_tumbrelref04_In Tryz.f178:=fun hn h =>
 enter Tryz.func178 (c:=(Tryz.f178.body.getD .skip)) rfl (by kernel_rfl) (Nat.le_of_ble_eq_true hn) h
def m_tumbrelref08_Set_fill:MC:=(x [e 10 (.bs0 5) [],m 11 0,q 12 (.nilc (t 11)),q 13 (.fld (t 12) 0),l 14 13,e 15 (.raw (o (.call ⟨(.builtin .append),[t 10,t 14].toArray,[115,115].toArray⟩) 115)) [],m 8 15] (s (x [m 16 1,q 17 (.bin .mul (i 256) (t 16)),m 9 17] (.block 0 (.loop (s (x [m 18 9,m 19 1,m 20 2,q 21 (.bin .add (t 19) (t 20)),q 22 (.bin .mul (i 256) (t 21)),q 23 (.bin .lss (t 18) (t 22))] (.cond (t 23) .skip (.exit 0))) (s (.block 1 (.reg [m 26 8,m 27 9,m 28 3,q 29 (.idx (t 26) (t 27) 1),w (.st (t 29) (t 28)) []])) (.reg [m 24 9,q 25 (.bin .add (t 24) (i 1)),m 9 25])))))) (.reg [m 30 0,m 31 8,q 32 (.nilc (t 30)),q 33 (.fld (t 32) 0),w (.st (t 33) (t 31)) []])))
theorem e_tumbrelref08_Set_fill:EOk 179 34 m_tumbrelref08_Set_fill Tryz.f179:=fun hn h =>
 enter Tryz.func179 (c:=(Tryz.f179.body.getD .skip)) rfl (by kernel_rfl) (Nat.le_of_ble_eq_true hn) h
def m_pages_Row_free:MC:=(x [e 1 (.box 167 (t 0)) [],q 2 (.mov (.const (.bool false)))] (x [r 0 3 (.ldn (t 1) 4),q 4 (.bld [.int .i64 0,.int .i64 0,.int .i64 0,.int .i64 0] []),r 0 5 (.raw (o (.binOp .eql 167 (t 3) (t 4) 167) 4)),m 2 5] .ret))
theorem e_pages_Row_free:EOk 180 6 m_pages_Row_free Tryz.f180:=fun hn h =>
 enter Tryz.func180 (c:=(Tryz.f180.body.getD .skip)) rfl (by kernel_rfl) (Nat.le_of_ble_eq_true hn) h
def m_bitset_Set_All:MC:=(x [q 2 (.mov (.const (.slice none 0 0)))] (x [q 3 (.mov (.const (.slice none 0 0)))] (s (x [m 7 0,e 8 (.call 190 [t 7,i 0,.const (.bool true)]) [],m 6 8,q 9 (.ext (t 6) 0),q 10 (.ext (t 6) 1),m 4 9,m 5 10] (.block 0 (.loop (s (x [m 11 5] (.cond (t 11) .skip (.exit 0))) (s (.block 1 (.reg [m 19 3,m 20 4,e 21 (.bs1 3 1 (t 20)) [],e 22 (.raw (o (.call ⟨(.builtin .append),[t 19,t 21].toArray,[38,38].toArray⟩) 38)) [],m 3 22])) (.reg [m 13 0,m 14 4,q 15 (.bin .add (t 14) (i 1)),e 16 (.call 190 [t 13,t 15,.const (.bool true)]) [],m 12 16,q 17 (.ext (t 12) 0),q 18 (.ext (t 12) 1),m 4 17,m 5 18])))))) (x [m 23 3,m 2 23] .ret))))
theorem e_bitset_Set_All:EOk 181 24 m_bitset_Set_All Tryz.f181:=fun hn h =>
 enter Tryz.func181 (c:=(Tryz.f181.body.getD .skip)) rfl (by kernel_rfl) (Nat.le_of_ble_eq_true hn) h
def m_object_Shape_may:MC:=(x [e 1 (.box 103 (t 0)) [],q 2 (.mov (.const (.bool false)))] (x [q 3 (.fld (t 1) 0),l 4 3,q 5 (.bin .geq (t 4) (i 0)),m 6 5,g 0 7 6 (.fld (t 1) 1),h 0 8 6 (.ld (t 7)),g 0 9 6 (.bin .geq (t 8) (i 0)),q 10 (.pick (t 6) (t 9) (.const (.bool false))),m 11 10,g 0 12 11 (.fld (t 1) 0),h 0 13 11 (.ld (t 12)),g 0 14 11 (.bin .leq (t 13) (i 15)),q 15 (.pick (t 11) (t 14) (.const (.bool false))),m 16 15,g 0 17 16 (.fld (t 1) 1),h 0 18 16 (.ld (t 17)),g 0 19 16 (.fld (t 1) 0),h 0 20 16 (.ld (t 19)),g 0 21 16 (.bin .sub (i 15) (t 20)),g 0 22 16 (.bin .leq (t 18) (t 21)),q 23 (.pick (t 16) (t 22) (.const (.bool false))),m 2 23] .ret))
theorem e_object_Shape_may:EOk 186 24 m_object_Shape_may Tryz.f186:=fun hn h =>
 enter Tryz.func186 (c:=(Tryz.f186.body.getD .skip)) rfl (by kernel_rfl) (Nat.le_of_ble_eq_true hn) h
def m_num_Get:MC:=(x [q 2 (.mov (.const (.int .u64 0)))] (x [q 3 (.mov (.const (.int .u64 0)))] (s (x [m 5 0,q 6 (.len (t 5)),q 7 (.mm false (t 6) (i 8)),q 8 (.mov (i 0))] (.block 0 (.loop (x [q 9 (.bin .lss (t 8) (t 7))] (s (.cond (t 9) .skip (.exit 0)) (s (.block 1 (x [m 10 8,m 4 10] (.reg [m 11 3,m 12 0,m 13 4,q 14 (.idx (t 12) (t 13) 1),l 15 14,q 16 (.cvi .u64 (t 15)),m 17 4,q 18 (.bin .mul (i 8) (t 17)),q 19 (.sh true (t 16) (t 18)),q 20 (.bin .or (t 11) (t 19)),m 3 20]))) (.reg [q 21 (.bin .add (t 8) (i 1)),m 8 21]))))))) (x [m 22 3,m 2 22] .ret))))
theorem e_num_Get:EOk 187 23 m_num_Get Tryz.f187:=fun hn h =>
 enter Tryz.func187 (c:=(Tryz.f187.body.getD .skip)) rfl (by kernel_rfl) (Nat.le_of_ble_eq_true hn) h
def m_large_run:MC:=(x [q 2 (.mov (i 0))] (x [m 6 0,e 7 (.call 130 [t 6]) [],m 5 7,q 8 (.ext (t 5) 0),q 9 (.ext (t 5) 1),m 3 8,m 4 9] (x [m 10 3,m 2 10] .ret)))
theorem e_large_run:EOk 188 11 m_large_run Tryz.f188:=fun hn h =>
 enter Tryz.func188 (c:=(Tryz.f188.body.getD .skip)) rfl (by kernel_rfl) (Nat.le_of_ble_eq_true hn) h
def m_link_Code_Canary:MC:=(x [e 2 (.box 143 (t 0)) [],q 4 (.mov (.const (.int .u64 0)))] (x [q 5 (.fld (t 2) 0),l 6 5,m 7 1,q 8 (.cvi .u64 (t 7)),q 9 (.bin .xor (t 6) (t 8)),e 10 (.call 156 [t 9]) [],m 4 10] .ret))
theorem e_link_Code_Canary:EOk 189 11 m_link_Code_Canary Tryz.f189:=fun hn h =>
 enter Tryz.func189 (c:=(Tryz.f189.body.getD .skip)) rfl (by kernel_rfl) (Nat.le_of_ble_eq_true hn) h
def m_bitset_Set_Next:MC:=(x [q 6 (.mov (i 0)),q 7 (.mov (.const (.bool false)))] (s (x [m 10 1,q 11 (.mm true (t 10) (i 0)),m 8 11] (.block 0 (.loop (s (x [m 12 8,m 13 0,e 14 (.call 124 [t 13]) [],q 15 (.bin .lss (t 12) (t 14))] (.cond (t 15) .skip (.exit 0))) (.block 1 (x [m 16 0,q 17 (.nilc (t 16)),q 18 (.fld (t 17) 0),l 19 18,m 20 8,q 21 (.bin .quo (t 20) (i 64)),q 22 (.idx (t 19) (t 21) 1),l 23 22,m 9 23] (s (x [m 24 2,q 25 (.un .not (t 24))] (.cond (t 25) (.reg [m 26 9,q 27 (.xorn (t 26)),m 9 27]) .skip)) (x [m 28 9,m 29 8,q 30 (.bin .rem (t 29) (i 64)),q 31 (.sh false (t 28) (t 30)),m 9 31] (s (x [m 32 9,q 33 (.bin .eql (t 32) (.const (.int .u64 0)))] (.cond (t 33) (x [m 34 8,q 35 (.bin .quo (t 34) (i 64)),q 36 (.bin .add (t 35) (i 1)),q 37 (.bin .mul (t 36) (i 64)),m 8 37] (.exit 1)) .skip)) (x [m 38 8,m 39 9,e 40 (.call 202 [t 39]) [],q 41 (.bin .add (t 38) (t 40)),m 8 41] (x [m 42 8,k 1 43 (.mov (t 8)),k 2 44 (.mov (t 0)),k 3 45 (.nilc (t 44)),k 4 46 (.fld (t 45) 1),r 5 47 (.ld (t 46)),k 6 48 (.bin .lss (t 43) (t 47)),k 9 51 (.mov (t 8)),k 10 52 (.mov (t 0)),k 11 53 (.nilc (t 52)),k 12 54 (.fld (t 53) 1),r 13 55 (.ld (t 54)),k 14 56 (.bin .lss (t 51) (t 55)),e 49 (.call 203 [t 48]) [13,5],k 8 50 (.bin .mul (t 42) (t 49)),k 15 6 (.mov (t 50)),k 16 7 (.mov (t 56))] .ret))))))))))) (x [q 6 (.mov (i 0)),q 7 (.mov (.const (.bool false)))] .ret)))
theorem e_bitset_Set_Next:EOk 190 57 m_bitset_Set_Next Tryz.f190:=fun hn h =>
 enter Tryz.func190 (c:=(Tryz.f190.body.getD .skip)) rfl (by kernel_rfl) (Nat.le_of_ble_eq_true hn) h
def m_math_bits_TrailingZeros64:MC:=(x [q 2 (.mov (i 0))] (s (x [m 3 0,q 4 (.bin .eql (t 3) (.const (.int .u64 0)))] (.cond (t 4) (x [q 2 (.mov (i 64))] .ret) .skip)) (x [m 5 0,m 6 0,q 7 (.un .neg (t 6)),q 8 (.bin .and (t 5) (t 7)),q 9 (.bin .mul (t 8) (.const (.int .u64 285870213051353865))),q 10 (.sh false (t 9) (.const (.int .u64 58))),q 11 (.idxa (.global 0) (t 10) 64 1),l 12 11,q 13 (.cvi .i64 (t 12)),m 2 13] .ret)))
theorem e_math_bits_TrailingZeros64:EOk 202 14 m_math_bits_TrailingZeros64 Tryz.f202:=fun hn h =>
 enter Tryz.func202 (c:=(Tryz.f202.body.getD .skip)) rfl (by kernel_rfl) (Nat.le_of_ble_eq_true hn) h
def m_bitset_bit:MC:=(x [q 2 (.mov (i 0))] (s (x [m 3 0] (.cond (t 3) (x [q 2 (.mov (i 1))] .ret) .skip)) (x [q 2 (.mov (i 0))] .ret)))
theorem e_bitset_bit:EOk 203 4 m_bitset_bit Tryz.f203:=fun hn h =>
 enter Tryz.func203 (c:=(Tryz.f203.body.getD .skip)) rfl (by kernel_rfl) (Nat.le_of_ble_eq_true hn) h
end Go.Proofs.YthmdialagibpfaaGreatDoor
end
section
namespace Go.Tum
open Go
def L2 (R:Value→Value→Prop):List Value→List Value→Prop
 | [],[]=>True
 | a::r,b::s=>R a b∧L2 R r s
 | _,_=>False
section
variable {R S:Value→Value→Prop}
theorem L2.mono (h:∀ a b,R a b→S a b):∀ {x y:List Value},L2 R x y→L2 S x y
 | [],[],_=>trivial
 | _::_,_::_,k=>⟨h _ _ k.1,L2.mono h k.2⟩
 | [],_::_,k=>k.elim
 | _::_,[],k=>k.elim
theorem L2.length:∀ {x y:List Value},L2 R x y→y.length=x.length
 | [],[],_=>rfl
 | _::_,_::_,k=>by simp [L2.length k.2]
 | [],_::_,k=>k.elim
 | _::_,[],k=>k.elim
theorem L2.get:∀ {x y:List Value} {i:Nat} {a:Value},L2 R x y→x[i]?=some a→∃ b,y[i]?=some b∧R a b
 | [],_,i,a,_,h=>by simp at h
 | _::_,[],_,_,k,_=>k.elim
 | a::r,b::s,0,c,k,h=>by simp at h; subst h; exact ⟨b,rfl,k.1⟩
 | a::r,b::s,i+1,c,k,h=>by
  simp at h
  obtain ⟨d,h1,h2⟩:=L2.get k.2 h
  exact ⟨d,by simpa using h1,h2⟩
theorem L2.take:∀ {x y:List Value} (n:Nat),L2 R x y→L2 R (x.take n) (y.take n)
 | _,_,0,_=>by simp [L2]
 | [],[],_+1,_=>by simp [L2]
 | _::_,_::_,n+1,k=>⟨k.1,L2.take n k.2⟩
 | [],_::_,_+1,k=>k.elim
 | _::_,[],_+1,k=>k.elim
theorem L2.drop:∀ {x y:List Value} (n:Nat),L2 R x y→L2 R (x.drop n) (y.drop n)
 | _,_,0,k=>by simpa using k
 | [],[],_+1,_=>by simp [L2]
 | _::_,_::_,n+1,k=>by simpa using L2.drop n k.2
 | [],_::_,_+1,k=>k.elim
 | _::_,[],_+1,k=>k.elim
theorem L2.append:∀ {x y x' y':List Value},L2 R x y→L2 R x' y'→L2 R (x++x') (y++y')
 | [],[],_,_,_,h=>h
 | _::_,_::_,_,_,k,h=>⟨k.1,L2.append k.2 h⟩
 | [],_::_,_,_,k,_=>k.elim
 | _::_,[],_,_,k,_=>k.elim
theorem L2.set:∀ {x y:List Value} (n:Nat) {a b:Value},L2 R x y→R a b→L2 R (x.set n a) (y.set n b)
 | [],[],n,_,_,_,_=>by simp [L2]
 | _::_,_::_,0,_,_,k,h=>⟨h,k.2⟩
 | _::_,_::_,n+1,_,_,k,h=>⟨k.1,L2.set n k.2 h⟩
 | [],_::_,_,_,_,k,_=>k.elim
 | _::_,[],_,_,_,k,_=>k.elim
theorem L2.mem:∀ {x y:List Value},L2 R x y→∀ b∈y,∃ a∈x,R a b
 | [],[],_,b,h=>by cases h
 | a::r,b::s,k,c,h=>by
  rcases List.mem_cons.1 h with rfl | h
  ·exact ⟨a,List.mem_cons_self ..,k.1⟩
  ·obtain ⟨d,h1,h2⟩:=L2.mem k.2 c h; exact ⟨d,List.mem_cons_of_mem _ h1,h2⟩
 | [],_::_,k,_,_=>k.elim
 | _::_,[],k,_,_=>k.elim
theorem L2.self {x:List Value} (h:∀ a∈x,R a a):L2 R x x:=by
 induction x with
 | nil=>trivial
 | cons a r ih=>exact ⟨h a (List.mem_cons_self ..),ih fun b hb=>h b (List.mem_cons_of_mem _ hb)⟩
end
abbrev Emb:=List (Nat × Nat × Nat)
def AR (E:Emb) (a a':Addr):Prop:=a.spot=none∧∃ r,E[a.block]?=some r∧a'=⟨r.1,a.off+r.2.1,none⟩
def S0 (E:Emb) (v v':Value):Prop :=
 match v with
 | .pointer (some a)=>(match a.spot with
  | some _=>v'=.pointer (some ⟨a.block,a.off,none⟩)
  | none=>∃ a',v'=.pointer (some a')∧AR E a a')
 | .slice (some a) n c=>(match a.spot with
  | some _=>v'=.slice (some ⟨a.block,a.off,none⟩) n c∨(n=0∧c=0∧∃ a',v'=.slice a' 0 0)
  | none=>a.spot=none∧∃ r,E[a.block]?=some r∧((∃ a' c',v'=.slice (some a') n c'∧((a'=⟨r.1,a.off+r.2.1,none⟩∧c'=c+r.2.2)∨(n=0∧c=0∧c'=0∧∃ o',a'=⟨r.1,o',none⟩∧o'≤a.off+r.2.1)))∨(n=0∧c=0∧∃ a',v'=.slice a' 0 0)))
 | .map (some b)=>∃ r,E[b]?=some r∧v'=.map (some r.1)
 | .func _ _ _=>False
 | .agg _=>False
 | .tuple _=>False
 | v=>v'=v
def SR (E:Emb) (v v':Value):Prop :=
 match v with
 | .func f ⟨a⟩ ⟨c⟩=>∃ a' c',v'=.func f ⟨a'⟩ ⟨c'⟩∧L2 (S0 E) a a'∧L2 (S0 E) c c'
 | v=>S0 E v v'
def V1 (E:Emb) (v v':Value):Prop :=
 match v with
 | .agg ⟨cs⟩=>∃ cs',v'=.agg ⟨cs'⟩∧L2 (SR E) cs cs'
 | v=>SR E v v'
def VR (E:Emb) (v v':Value):Prop :=
 match v with
 | .tuple ⟨vs⟩=>∃ vs',v'=.tuple ⟨vs'⟩∧L2 (V1 E) vs vs'
 | v=>V1 E v v'
def Ext (E E':Emb):Prop:=∀ (k:Nat) (r:Nat × Nat × Nat),E[k]?=some r→E'[k]?=some r
theorem Ext.refl (E:Emb):Ext E E:=fun _ _ h=>h
theorem Ext.trans {A B C:Emb} (h:Ext A B) (k:Ext B C):Ext A C:=fun i r hi=>k i r (h i r hi)
theorem Ext.push (E:Emb) (r:Nat × Nat × Nat):Ext E (E++[r]):=fun k x hk=>by rw [List.getElem?_append_left (List.getElem?_eq_some_iff.1 hk).1]; exact hk
section
variable {E E':Emb}
theorem AR.ext (h:Ext E E') {a a':Addr} (k:AR E a a'):AR E' a a':=by obtain ⟨h1,r,h2,h3⟩:=k; exact ⟨h1,r,h _ _ h2,h3⟩
theorem S0.ext (h:Ext E E') {v v':Value} (k:S0 E v v'):S0 E' v v':=by
 cases v <;> first|exact k | skip
 case pointer a=>rcases a with _ | ⟨b,o,_ | s⟩ <;> first|exact k | (obtain ⟨a',h1,h2⟩:=k; exact ⟨a',h1,h2.ext h⟩)
 case slice a n c=>rcases a with _ | ⟨b,o,_ | s⟩ <;> first|exact k | (obtain ⟨h0,r,h1,h2⟩:=k; exact ⟨h0,r,h _ _ h1,h2⟩)
 case map a=>cases a <;> first|exact k | (obtain ⟨r,h1,h2⟩:=k; exact ⟨r,h _ _ h1,h2⟩)
theorem SR.ext (h:Ext E E') {v v':Value} (k:SR E v v'):SR E' v v':=by
 cases v <;> first|exact k | skip
 case pointer a=>exact S0.ext h (v:=.pointer a) k
 case slice a n c=>exact S0.ext h (v:=.slice a n c) k
 case map a=>exact S0.ext h (v:=.map a) k
 case func f a c=>obtain ⟨a⟩:=a; obtain ⟨c⟩:=c; obtain ⟨a',c',h1,h2,h3⟩:=k; exact ⟨a',c',h1,h2.mono fun _ _=>S0.ext h,h3.mono fun _ _=>S0.ext h⟩
theorem V1.ext (h:Ext E E') {v v':Value} (k:V1 E v v'):V1 E' v v':=by
 cases v <;> first|exact k | skip
 case pointer a=>exact SR.ext h (v:=.pointer a) k
 case slice a n c=>exact SR.ext h (v:=.slice a n c) k
 case map a=>exact SR.ext h (v:=.map a) k
 case func f a c=>exact SR.ext h (v:=.func f a c) k
 case agg cs=>obtain ⟨cs⟩:=cs; obtain ⟨cs',h1,h2⟩:=k; exact ⟨cs',h1,h2.mono fun _ _=>SR.ext h⟩
theorem VR.ext (h:Ext E E') {v v':Value} (k:VR E v v'):VR E' v v':=by
 cases v <;> first|exact k | skip
 case pointer a=>exact SR.ext h (v:=.pointer a) k
 case slice a n c=>exact SR.ext h (v:=.slice a n c) k
 case map a=>exact SR.ext h (v:=.map a) k
 case func f a c=>exact SR.ext h (v:=.func f a c) k
 case agg cs=>exact V1.ext h (v:=.agg cs) k
 case tuple cs=>obtain ⟨cs⟩:=cs; obtain ⟨cs',h1,h2⟩:=k; exact ⟨cs',h1,h2.mono fun _ _=>V1.ext h⟩
theorem SR.one {v v':Value} (h:SR E v v'):one v=true∧one v'=true:=by
 cases v <;> first|exact h.elim | skip
 case pointer a=>rcases a with _ | ⟨b,o,_ | s⟩ <;> first | (cases h; exact ⟨rfl,rfl⟩) | (obtain ⟨a',rfl,_⟩:=h; exact ⟨rfl,rfl⟩)
 case slice a _ _=>rcases a with _ | ⟨b,o,_ | s⟩ <;> first | (cases h; exact ⟨rfl,rfl⟩) | (obtain ⟨_,r,_,⟨a',c',rfl,_⟩ | ⟨_,_,_,rfl⟩⟩:=h <;> exact ⟨rfl,rfl⟩) | (rcases h with rfl | ⟨_,_,_,rfl⟩ <;> exact ⟨rfl,rfl⟩)
 case map a=>cases a <;> first | (cases h; exact ⟨rfl,rfl⟩) | (obtain ⟨r,_,rfl⟩:=h; exact ⟨rfl,rfl⟩)
 case func f a c=>obtain ⟨a⟩:=a; obtain ⟨c⟩:=c; obtain ⟨a',c',rfl,_⟩:=h; exact ⟨rfl,rfl⟩
 all_goals (cases h; exact ⟨rfl,rfl⟩)
theorem SR.vr {v v':Value} (h:SR E v v'):VR E v v':=by
 cases v <;> first|exact h|exact h.elim
theorem VR.sr {v v':Value} (h:VR E v v') (h1:Tum.one v=true):SR E v v':=by
 cases v <;> first|exact h | cases h1
theorem V1.vr {v v':Value} (h:V1 E v v'):VR E v v':=by
 cases v <;> first|exact h|exact h.elim
end
def stillS:Value→Bool
 | .pointer (some _)=>false
 | .slice (some _) _ _=>false
 | .map (some _)=>false
 | .func _ ⟨a⟩ ⟨c⟩=>a.isEmpty && c.isEmpty
 | .agg _=>false
 | .tuple _=>false
 | _=>true
def still:Value→Bool
 | .agg ⟨cs⟩=>cs.all stillS
 | v=>stillS v
def notTup:Value→Bool
 | .tuple _=>false
 | _=>true
section
variable {E:Emb}
theorem SR.still {v:Value} (h:stillS v=true):SR E v v:=by
 cases v <;> first | rfl | skip
 case pointer a=>cases a <;> first | rfl | cases h
 case slice a _ _=>cases a <;> first | rfl | cases h
 case map a=>cases a <;> first | rfl | cases h
 case func f a c =>
  obtain ⟨a⟩:=a; obtain ⟨c⟩:=c
  cases a with
  | cons=>cases h
  | nil=>cases c with
   | cons=>cases h
   | nil=>exact ⟨[],[],rfl,trivial,trivial⟩
 case agg=>cases h
 case tuple=>cases h
theorem SR.eq_still {v v':Value} (h:stillS v=true) (k:SR E v v'):v'=v:=by
 cases v <;> first|exact k | skip
 case pointer a=>cases a <;> first|exact k | cases h
 case slice a _ _=>cases a <;> first|exact k | cases h
 case map a=>cases a <;> first|exact k | cases h
 case func f a c =>
  obtain ⟨a⟩:=a; obtain ⟨c⟩:=c
  cases a with
  | cons=>cases h
  | nil=>cases c with
   | cons=>cases h
   | nil =>
    obtain ⟨a',c',rfl,h1,h2⟩:=k
    cases a' with
    | cons=>exact h1.elim
    | nil=>cases c' with
     | cons=>exact h2.elim
     | nil=>rfl
 case agg=>cases h
 case tuple=>cases h
theorem L2.eq_still:∀ {x y:List Value},x.all stillS=true→L2 (SR E) x y→y=x
 | [],[],_,_=>rfl
 | a::r,b::s,h,k=>by
  simp only [List.all_cons,Bool.and_eq_true] at h
  rw [SR.eq_still h.1 k.1,L2.eq_still h.2 k.2]
 | [],_::_,_,k=>k.elim
 | _::_,[],_,k=>k.elim
theorem VR.still {v:Value} (h:Tum.still v=true):VR E v v:=by
 cases v <;> first | rfl | skip
 case pointer a=>exact SR.still (v:=.pointer a) h
 case slice a n c=>exact SR.still (v:=.slice a n c) h
 case map a=>exact SR.still (v:=.map a) h
 case func f a c=>exact SR.still (v:=.func f a c) h
 case agg cs=>obtain ⟨cs⟩:=cs; exact ⟨cs,rfl,L2.self fun a ha=>SR.still (List.all_eq_true.1 h a ha)⟩
 case tuple=>cases h
theorem VR.v1 {v v':Value} (h:VR E v v') (hf:notTup v=true):V1 E v v':=by
 cases v <;> first|exact h | cases hf
theorem VR.undef:VR E undef undef:=⟨[],rfl,trivial⟩
theorem VR.cells {v v':Value} (h:VR E v v') (hf:notTup v=true):L2 (SR E) v.cells.toList v'.cells.toList:=by
 cases v <;> first | (cases hf; done) | skip
 case agg cs=>obtain ⟨cs⟩:=cs; obtain ⟨cs',rfl,h⟩:=h; exact h
 all_goals (have hs:=VR.sr h rfl; have h1:=hs.one.2; rw [one_cells h1,one_cells hs.one.1]; exact ⟨hs,trivial⟩)
theorem VR.cellsL {v v':Value} (h:VR E v v') (hf:notTup v=true):L2 (SR E) (cellsL v) (cellsL v'):=by
 have:=h.cells hf
 have e:∀ u:Value,Tum.cellsL u=u.cells.toList:=by intro u; cases u <;> rfl
 rw [e,e]; exact this
theorem AR.add {a a':Addr} (h:AR E a a') (k:Nat):AR E (a.add k) (a'.add k):=by
 obtain ⟨b,o,s⟩:=a
 obtain ⟨h1,r,h2,rfl⟩:=h
 cases h1
 rw [add_none,add_none]
 exact ⟨rfl,r,h2,by simp; omega⟩
end
def ER (E:Emb) (l l':Env):Prop:=∀ (t:Nat) (v:Value),eget l t=some v→∃ v',eget l' t=some v'∧VR E v v'
theorem ER.ext {E E':Emb} (h:Ext E E') {l l':Env} (k:ER E l l'):ER E' l l':=fun t v ht=>let ⟨v',h1,h2⟩:=k t v ht; ⟨v',h1,h2.ext h⟩
theorem ER.get {E:Emb} {l l':Env} {t:Nat} {v:Value} (k:ER E l l') (h:eget l t=some v):∃ v',eget l' t=some v'∧VR E v v':=k t v h
theorem ER.nil (E:Emb) (l':Env):ER E [] l':=fun _ _ h=>by cases h
theorem ER.cons {E:Emb} {l l':Env} {v v':Value} (d:Nat) (hv:VR E v v') (h:ER E l l'):ER E ((d,v)::l) ((d,v')::l'):=by
 intro t u ht
 rw [eget_cons] at ht ⊢
 by_cases e:d=t
 ·rw [if_pos e] at ht ⊢; cases ht; exact ⟨v',rfl,hv⟩
 ·rw [if_neg e] at ht ⊢; exact h t u ht
theorem ER.more {E:Emb} {l l':Env} {v v':Value} {d:Nat} (hv:VR E v v') (hd:eget l' d=some v') (h:ER E l l'):ER E ((d,v)::l) l':=by
 intro t u ht
 rw [eget_cons] at ht
 by_cases e:d=t
 ·rw [if_pos e] at ht; cases ht; subst e; exact ⟨v',hd,hv⟩
 ·rw [if_neg e] at ht; exact h t u ht
theorem ER.dpush {E:Emb} {l l':Env} {v v':Value} (h:ER E l l') (hv:VR E v v') (d:Option Nat):ER E (dpush d v l) (dpush d v' l'):=by
 cases d with
 | none=>exact h
 | some d=>exact ER.cons d hv h
def lv (l:Env):Operand→Option Value
 | .tmp t=>eget l t
 | .const v=>bif still v then some v else none
 | .global _=>none
 | .func f=>some (.func (.func f) #[] #[])
theorem lv_ev {E:Emb} {l l':Env} {x:Operand} {v:Value} (hl:ER E l l') (h:lv l x=some v):∃ v',ev l' x=some v'∧VR E v v':=by
 cases x with
 | tmp t=>exact hl.get h
 | const u =>
  simp only [lv] at h
  cases hs:still u
  ·rw [hs] at h; cases h
  ·rw [hs] at h; cases h; exact ⟨v,rfl,VR.still hs⟩
 | global g=>cases h
 | func f=>cases h; exact ⟨_,rfl,[],[],rfl,trivial,trivial⟩
def lvs (l:Env):List Operand→Option (List Value)
 | []=>some []
 | x::r=>match lv l x with
  | some v=>match lvs l r with
   | some vs=>some (v::vs)
   | none=>none
  | none=>none
theorem lvs_evs {E:Emb} {l l':Env} (hl:ER E l l'):∀ {xs:List Operand} {vs:List Value},lvs l xs=some vs→∃ vs',evs l' xs=some vs'∧L2 (VR E) vs vs'
 | [],vs,h=>by cases h; exact ⟨[],rfl,trivial⟩
 | x::r,vs,h=>by
  simp only [lvs] at h
  cases hx:lv l x with
  | none=>rw [hx] at h; cases h
  | some v =>
   rw [hx] at h
   cases hr:lvs l r with
   | none=>rw [hr] at h; cases h
   | some us =>
    rw [hr] at h; cases h
    obtain ⟨v',h1,h2⟩:=lv_ev hl hx
    obtain ⟨us',h3,h4⟩:=lvs_evs hl hr
    exact ⟨v'::us',by simp only [evs,h1,h3],h2,h4⟩
def bv (x i:Nat):Value:=.int .u8 (.ofNat (Nat.mod (Nat.shiftRight x (Nat.mul 8 i)) 256))
def bl (n x:Nat):List Value:=(List.range n).map (bv x)
def blF (x:Nat):Nat→Nat→List Value
 | _,0=>[]
 | o,n+1=>bv x o::blF x (o+1) n
def bset (x i u:Nat):Nat:=Nat.xor x (Nat.shiftLeft (Nat.xor (Nat.mod (Nat.shiftRight x (Nat.mul 8 i)) 256) u) (Nat.mul 8 i))
theorem bl_length (n x:Nat):(bl n x).length=n:=by simp [bl]
theorem bl_get {n x i:Nat} (h:i<n):(bl n x)[i]?=some (bv x i):=by simp [bl,h]
theorem blF_eq {x N:Nat}:∀ n o,o+n≤N→((bl N x).drop o).take n=blF x o n
 | 0,_,_=>by simp [blF]
 | n+1,o,h=>by
  have h1:o<(bl N x).length:=by rw [bl_length]; omega
  rw [List.drop_eq_getElem_cons h1,List.take_succ_cons,blF_eq n (o+1) (by omega),blF]
  congr 1
  have:=bl_get (n:=N) (x:=x) (i:=o) (by omega)
  rw [List.getElem?_eq_getElem h1] at this
  exact Option.some.inj this
theorem bl_still (n x:Nat):(bl n x).all stillS=true:=by
 rw [List.all_eq_true]; intro u hu; obtain ⟨i,_,rfl⟩:=List.mem_map.1 hu; rfl
theorem bset_bv {x i u j:Nat} (hu:u<256):bv (bset x i u) j=if j=i then .int .u8 (.ofNat u) else bv x j:=by
 show Value.int .u8 (.ofNat (((x ^^^ (((x >>> (8*i)) % 256 ^^^ u) <<< (8*i))) >>> (8*j)) % 256))=if j=i then .int .u8 (.ofNat u) else .int .u8 (.ofNat ((x >>> (8*j)) % 256))
 have h8:(256:Nat)=2 ^ 8:=rfl
 have hlt:((x >>> (8*i)) % 256 ^^^ u)<2 ^ 8:=Nat.xor_lt_two_pow (Nat.mod_lt _ (by decide)) hu
 by_cases e:j=i
 ·subst e
  rw [if_pos rfl]
  congr 2
  apply Nat.eq_of_testBit_eq
  intro k
  rw [h8]
  simp only [Nat.testBit_mod_two_pow,Nat.testBit_shiftRight,Nat.testBit_xor,Nat.testBit_shiftLeft]
  by_cases hk:k<8
  ·have h1:8*j+k≥8*j:=by omega
   have h2:8*j+k-8*j=k:=by omega
   simp [hk,h2]
  ·have:u.testBit k=false:=Nat.testBit_lt_two_pow (Nat.lt_of_lt_of_le hu (by rw [h8]; exact Nat.pow_le_pow_right (by decide) (by omega)))
   simp [hk,this]
 ·rw [if_neg e]
  congr 2
  apply Nat.eq_of_testBit_eq
  intro k
  rw [h8] at hlt ⊢
  simp only [Nat.testBit_mod_two_pow,Nat.testBit_shiftRight]
  by_cases hk:k<8
  ·rw [Nat.testBit_xor,Nat.testBit_shiftLeft]
   by_cases hji:j<i
   ·have:¬ (8*i≤8*j+k):=by omega
    simp [this]
   ·have:((x >>> (8*i)) % 2 ^ 8 ^^^ u).testBit (8*j+k-8*i)=false:=Nat.testBit_lt_two_pow (Nat.lt_of_lt_of_le hlt (Nat.pow_le_pow_right (by decide) (by omega)))
    rw [this]; simp
  ·simp [hk]
theorem bset_bl {n x i u:Nat} (hu:u<256):bl n (bset x i u)=(bl n x).set i (.int .u8 (.ofNat u)):=by
 apply List.ext_getElem?
 intro j
 rw [List.getElem?_set]
 by_cases hj:j<n
 ·rw [bl_get hj,bl_get hj,bset_bv hu,bl_length]
  by_cases e:j=i
  ·subst e; simp [hj]
  ·rw [if_neg e,if_neg (Ne.symm e)]
 ·rw [List.getElem?_eq_none (by rw [bl_length]; omega),List.getElem?_eq_none (l:=bl n x) (by rw [bl_length]; omega),bl_length]
  split
  ·rw [if_neg (by omega)]
  ·rfl
inductive LB where
 /-- cells; sz: the size of an element,if there may be room behind them (else 0) -/
 | cells (sz:Nat) (vs:List Value)
 /-- a whole block without addresses in it -/
 | data (vs:List Value)
 /-- a whole block of n bytes -/
 | bytes (n x:Nat)
 /-- what grows by append,without addresses in it; if it is empty there need be no block -/
 | gro (sz:Nat) (vs:List Value)
 | map (m:List (Value × Value × Nat)) (c:Nat)
 | iter (m:Option Nat) (since:Nat) (seen:List Nat) (last:Nat)
 | dead
 /-- whatever else is kept in the blocks F,of which its own one is the first -/
 | abs (A:Nat→World→Prop) (F:Nat→Prop)
 /-- a map of whole numbers: keys,elements,when they came -/
 | imap (G:List (Int × Int × Nat)) (c:Nat)
abbrev LH:=List LB
def mI (G:List (Int × Int × Nat)):List (Int × Value × Nat):=G.map fun x=>(x.1,.int .i64 x.2.1,x.2.2)
def ME (E:Emb) (x:Value × Value × Nat) (e:MapEntry):Prop:=V1 E x.1 e.key∧V1 E x.2.1 e.val∧e.born=x.2.2
def M2 (E:Emb):List (Value × Value × Nat)→List MapEntry→Prop
 | [],[]=>True
 | a::r,b::s=>ME E a b∧M2 E r s
 | _,_=>False
theorem M2.ext {E E':Emb} (h:Ext E E'):∀ {m:List (Value × Value × Nat)} {es:List MapEntry},M2 E m es→M2 E' m es
 | [],[],_=>trivial
 | _::_,_::_,k=>⟨⟨k.1.1.ext h,k.1.2.1.ext h,k.1.2.2⟩,k.2.ext h⟩
 | [],_::_,k=>k.elim
 | _::_,[],k=>k.elim
theorem M2.length {E:Emb}:∀ {m:List (Value × Value × Nat)} {es:List MapEntry},M2 E m es→es.length=m.length
 | [],[],_=>rfl
 | _::_,_::_,k=>by simp [M2.length k.2]
 | [],_::_,k=>k.elim
 | _::_,[],k=>k.elim
def foot (r:Nat × Nat × Nat):LB→Nat→Prop
 | .dead=>fun _=>False
 | .abs _ F=>F
 | .gro _ []=>fun _=>False
 | _=>(·=r.1)
def LBis (E:Emb) (w:World) (r:Nat × Nat × Nat):LB→Prop
 | .cells sz vs=>∃ cs,Blk w r.1 cs∧L2 (SR E) vs ((cs.drop r.2.1).take vs.length)∧r.2.1+vs.length+r.2.2*sz≤cs.length∧(sz=0→r.2.2=0)
 | .data vs=>Blk w r.1 vs∧r.2=(0,0)
 | .bytes n x=>Blk w r.1 (bl n x)∧r.2=(0,0)
 | .gro sz vs=>(vs=[]∧r.2.2=0)∨(vs≠[]∧0<sz∧∃ cs,Blk w r.1 cs∧(cs.drop r.2.1).take vs.length=vs∧r.2.1+vs.length+r.2.2*sz≤cs.length)
 | .map m c=>∃ es:List MapEntry,w.heap[r.1]?=some (.map es.toArray c)∧M2 E m es
 | .iter m since seen last=>r.2=(0,0)∧∃ m',w.heap[r.1]?=some (.mapIter m' since seen.toArray last)∧(match m with
  | none=>m'=none
  | some b=>∃ q,E[b]?=some q∧m'=some q.1)
 | .dead=>True
 | .abs A F=>A r.1 w∧r.2=(0,0)∧∀ w1 w2 G,A r.1 w1→Fr G w1 w2→(∀ b,F b→¬ G b)→A r.1 w2
 | .imap G c=>Mp (Value.int .i64) w r.1 (mI G) c∧Wf (mI G) c
theorem LBis.fr {E:Emb} {w w':World} {r:Nat × Nat × Nat} {x:LB} {F:Nat→Prop} (h:LBis E w r x) (hf:Fr F w w') (hlt:∀ b,foot r x b→b<w.heap.size) (hn:∀ b,foot r x b→¬ F b):LBis E w' r x:=by
 cases x with
 | cells sz vs=>obtain ⟨cs,h1,h2⟩:=h; exact ⟨cs,hf.blk h1 (hn _ rfl),h2⟩
 | data vs=>exact ⟨hf.blk h.1 (hn _ rfl),h.2⟩
 | bytes n x=>exact ⟨hf.blk h.1 (hn _ rfl),h.2⟩
 | gro sz vs =>
  rcases h with h | ⟨h0,h1,cs,h2,h3⟩
  ·exact .inl h
  ·refine .inr ⟨h0,h1,cs,hf.blk h2 (hn _ ?_),h3⟩
   cases vs with
   | nil=>exact absurd rfl h0
   | cons=>rfl
 | map m c=>obtain ⟨es,h1,h2⟩:=h; exact ⟨es,(hf.keep _ (Array.getElem?_eq_some_iff.1 h1).1 (hn _ rfl)).trans h1,h2⟩
 | iter m a b c=>obtain ⟨h0,es,h1,h2⟩:=h; exact ⟨h0,es,(hf.keep _ (Array.getElem?_eq_some_iff.1 h1).1 (hn _ rfl)).trans h1,h2⟩
 | dead=>trivial
 | abs A F=>exact ⟨h.2.2 _ _ _ h.1 hf (fun b hb=>hn b hb),h.2⟩
 | imap G c=>exact ⟨h.1.fr hf (hn _ rfl),h.2⟩
theorem LBis.ext {E E':Emb} {w:World} {r:Nat × Nat × Nat} {x:LB} (h:LBis E w r x) (he:Ext E E'):LBis E' w r x:=by
 cases x with
 | cells sz vs=>obtain ⟨cs,h1,h2,h3⟩:=h; exact ⟨cs,h1,h2.mono fun _ _=>SR.ext he,h3⟩
 | data vs=>exact h
 | bytes n x=>exact h
 | gro sz vs=>exact h
 | map m c=>obtain ⟨es,h1,h2⟩:=h; exact ⟨es,h1,h2.ext he⟩
 | iter m a b c =>
  obtain ⟨h0,es,h1,h2⟩:=h
  refine ⟨h0,es,h1,?_⟩
  cases m with
  | none=>exact h2
  | some b=>obtain ⟨q,h3,h4⟩:=h2; exact ⟨q,he _ _ h3,h4⟩
 | dead=>trivial
 | abs A F=>exact h
 | imap G c=>exact h
structure Rep (X:Nat→Prop) (w0:World) (E:Emb) (L:LH) (w:World):Prop where
 fr:Fr X w0 w
 len:E.length=L.length
 rng:∀ (k:Nat) (x:LB) (r:Nat × Nat × Nat),L[k]?=some x→E[k]?=some r→∀ b,foot r x b→(w0.heap.size≤b∨X b)∧b<w.heap.size
 blk:∀ (k:Nat) (x:LB) (r:Nat × Nat × Nat),L[k]?=some x→E[k]?=some r→LBis E w r x
 inj:∀ (k k':Nat) (x x':LB) (r r':Nat × Nat × Nat) (b:Nat),L[k]?=some x→L[k']?=some x'→E[k]?=some r→E[k']?=some r'→foot r x b→foot r' x' b→k=k'
theorem Rep.nil (X:Nat→Prop) (w:World):Rep X w [] [] w:=⟨Fr.refl _ w,rfl,fun k x r h=>by simp at h,fun k x r h=>by simp at h,fun k k' x x' r r' b h=>by simp at h⟩
section
variable {X:Nat→Prop} {w0 w w':World} {E:Emb} {L:LH}
theorem Rep.ent (h:Rep X w0 E L w) {b:Nat} {x:LB} (hx:L[b]?=some x):∃ r,E[b]?=some r :=
 ⟨_,List.getElem?_eq_getElem (by rw [h.len]; exact (List.getElem?_eq_some_iff.1 hx).1)⟩
theorem Rep.frT (h:Rep X w0 E L w) {b:Nat} {y:LB} {r:Nat × Nat × Nat} (hy:L[b]?=some y) (hr:E[b]?=some r) (hf:Fr (foot r y) w w'):Fr X w0 w' :=
 h.fr.trans hf fun c hc e=>by rcases (h.rng b y r hy hr c e).1 with h1 | h1 <;> first | omega|exact h1
theorem Rep.upd {b:Nat} {x y:LB} {r:Nat × Nat × Nat} (h:Rep X w0 E L w) (hy:L[b]?=some y) (hr:E[b]?=some r) (hf:Fr (foot r y) w w') (hx:LBis E w' r x) (hft:∀ c,foot r x c→foot r y c∨(w.heap.size≤c∧c<w'.heap.size)):Rep X w0 E (L.set b x) w':=by
 have hlt:=(List.getElem?_eq_some_iff.1 hy).1
 have cut:∀ (k:Nat) (z:LB),(L.set b x)[k]?=some z→(k=b∧z=x)∨(k≠b∧L[k]?=some z):=by
  intro k z hz
  rw [List.getElem?_set] at hz
  by_cases e:b=k
  ·subst e
   rw [if_pos rfl,if_pos hlt] at hz; cases hz
   exact .inl ⟨rfl,rfl⟩
  ·rw [if_neg e] at hz; exact .inr ⟨fun e'=>e e'.symm,hz⟩
 have frs:=h.fr.size
 refine ⟨h.frT hy hr hf,by rw [h.len,List.length_set],fun k z r' hz hr' c hc=>?_,fun k z r' hz hr'=>?_,fun k k' z z' r1 r2 c hz hz' h1 h2 e1 e2=>?_⟩
 ·rcases cut k z hz with ⟨rfl,rfl⟩ | ⟨_,hz⟩
  ·rw [hr] at hr'; cases hr'
   rcases hft c hc with h1 | h1
   ·have:=h.rng _ y _ hy hr c h1; exact ⟨this.1,Nat.lt_of_lt_of_le this.2 hf.size⟩
   ·exact ⟨.inl (by omega),h1.2⟩
  ·have:=h.rng k z r' hz hr' c hc; exact ⟨this.1,Nat.lt_of_lt_of_le this.2 hf.size⟩
 ·rcases cut k z hz with ⟨rfl,rfl⟩ | ⟨hne,hz⟩
  ·rw [hr] at hr'; cases hr'; exact hx
  ·exact (h.blk k z r' hz hr').fr hf (fun c hc=>(h.rng k z r' hz hr' c hc).2) fun c hc hc'=>hne (h.inj k b z y r' r c hz hy hr' hr hc hc')
 ·rcases cut k z hz with ⟨rfl,rfl⟩ | ⟨hne,hz0⟩
  ·rcases cut k' z' hz' with ⟨rfl,rfl⟩ | ⟨hne',hz'⟩
   ·rfl
   ·rw [hr] at h1; cases h1
    rcases hft c e1 with h3 | h3
    ·exact absurd (h.inj _ _ y z' _ _ c hy hz' hr h2 h3 e2).symm hne'
    ·have:=(h.rng _ _ _ hz' h2 c e2).2; omega
  ·rcases cut k' z' hz' with ⟨rfl,rfl⟩ | ⟨hne',hz1⟩
   ·rw [hr] at h2; cases h2
    rcases hft c e2 with h3 | h3
    ·exact absurd (h.inj _ _ z y _ _ c hz0 hy h1 hr e1 h3) hne
    ·have:=(h.rng _ _ _ hz0 h1 c e1).2; omega
   ·exact h.inj k k' z z' r1 r2 c hz0 hz1 h1 h2 e1 e2
theorem Rep.push {x:LB} {r:Nat × Nat × Nat} (h:Rep X w0 E L w) (hf:Fr (fun _=>False) w w') (hft:∀ b,foot r x b→w.heap.size≤b∧b<w'.heap.size) (hx:LBis (E++[r]) w' r x):Rep X w0 (E++[r]) (L++[x]) w':=by
 have cut:∀ (k:Nat) (z:LB) (r':Nat × Nat × Nat),(L++[x])[k]?=some z→(E++[r])[k]?=some r'→(L[k]?=some z∧E[k]?=some r')∨(k=E.length∧z=x∧r'=r):=by
  intro k z r' hz hk
  rw [List.getElem?_append] at hk hz
  rw [h.len] at hk
  split at hk
  ·rename_i hlt; rw [if_pos hlt] at hz; exact .inl ⟨hz,hk⟩
  ·rename_i hlt
   rw [if_neg hlt] at hz
   have:k=E.length:=by
    have:=(List.getElem?_eq_some_iff.1 hk).1
    simp at this; rw [h.len]; omega
   subst this
   rw [h.len] at hk hz
   simp at hk hz
   exact .inr ⟨rfl,hz.symm,hk.symm⟩
 refine ⟨h.fr.trans hf fun _ _ e=>e.elim,by simp [h.len],fun k z r' hz hk c hc=>?_,fun k z r' hz hk=>?_,fun k k' z z' r1 r2 c hz hz' h1 h2 e1 e2=>?_⟩
 ·rcases cut k z r' hz hk with ⟨a0,a1⟩ | ⟨_,rfl,rfl⟩
  ·have h1:=h.rng k z r' a0 a1 c hc; have:=hf.size; exact ⟨h1.1,by omega⟩
  ·have:=h.fr.size; have:=hft c hc; exact ⟨.inl (by omega),by omega⟩
 ·rcases cut k z r' hz hk with ⟨a0,a1⟩ | ⟨_,rfl,rfl⟩
  ·exact ((h.blk k z r' a0 a1).fr hf (fun c hc=>(h.rng k z r' a0 a1 c hc).2) fun _ _ e=>e).ext (Ext.push E r)
  ·exact hx
 ·rcases cut k z r1 hz h1 with ⟨a0,a1⟩ | ⟨rfl,rfl,rfl⟩
  ·rcases cut k' z' r2 hz' h2 with ⟨b0,b1⟩ | ⟨rfl,rfl,rfl⟩
   ·exact h.inj k k' z z' r1 r2 c a0 b0 a1 b1 e1 e2
   ·have:=(h.rng k z r1 a0 a1 c e1).2; have:=hft c e2; omega
  ·rcases cut k' z' r2 hz' h2 with ⟨b0,b1⟩ | ⟨rfl,rfl,rfl⟩
   ·have:=(h.rng k' z' r2 b0 b1 c e2).2; have:=hft c e1; omega
   ·rfl
theorem Rep.push1 {x:LB} {r:Nat × Nat × Nat} (h:Rep X w0 E L w) (hf:Fr (fun _=>False) w w') (hr:r.1=w.heap.size) (hs:w'.heap.size=w.heap.size+1) (hft:∀ b,foot r x b→b=r.1) (hx:LBis (E++[r]) w' r x):Rep X w0 (E++[r]) (L++[x]) w' :=
 h.push hf (fun b hb=>by have:=hft b hb; omega) hx
def LB.vals:LB→Option (List Value)
 | .cells _ vs=>some vs
 | .data vs=>bif vs.all stillS then some vs else none
 | .bytes n x=>some (bl n x)
 | .gro _ vs=>bif vs.all stillS then some vs else none
 | _=>none
def lcell (L:LH) (a:Addr):Option Value :=
 match a with
 | ⟨b,o,none⟩=>match L[b]? with
  | some (.cells _ vs)=>vs[o]?
  | some (.data vs)=>match vs[o]? with
   | some v=>bif stillS v then some v else none
   | none=>none
  | some (.bytes n x)=>bif Nat.blt o n then (match Nat.mod (Nat.shiftRight x (Nat.mul 8 o)) 256 with
   | 0=>some (.int .u8 (.ofNat 0))
   | k+1=>some (.int .u8 (.ofNat (k+1)))) else none
  | some (.gro _ vs)=>match vs[o]? with
   | some v=>bif stillS v then some v else none
   | none=>none
  | _=>none
 | _=>none
theorem lcell_ok (h:Rep X w0 E L w) {a a':Addr} {v:Value} (ha:AR E a a') (hc:lcell L a=some v):∃ v',w.cell? a'=some v'∧SR E v v':=by
 obtain ⟨b,o,s⟩:=a
 obtain ⟨h1,r,h2,rfl⟩:=ha
 cases h1
 simp only [lcell] at hc
 cases hb:L[b]? with
 | none=>rw [hb] at hc; cases hc
 | some x =>
  rw [hb] at hc
  cases x <;> first | (cases hc; done) | skip
  case cells sz vs =>
   obtain ⟨cs,hB,hl,_,_⟩:=h.blk b _ r hb h2
   obtain ⟨v',h3,h4⟩:=hl.get hc
   refine ⟨v',hB.cell ?_,h4⟩
   rw [List.getElem?_take] at h3
   split at h3
   ·rw [List.getElem?_drop] at h3; rw [← h3]; congr 1; simp; omega
   ·cases h3
  case data vs =>
   obtain ⟨hB,hr0⟩:=h.blk b _ r hb h2
   obtain ⟨r1,r2⟩:=r
   simp only at hr0; subst hr0
   simp only at hc
   cases hv:vs[o]? with
   | none=>rw [hv] at hc; cases hc
   | some u =>
    rw [hv] at hc
    simp only at hc
    cases hs:stillS u
    ·rw [hs] at hc; cases hc
    ·rw [hs] at hc; cases hc
     exact ⟨v,hB.cell (by simpa using hv),SR.still hs⟩
  case bytes n x =>
   obtain ⟨hB,hr0⟩:=h.blk b _ r hb h2
   obtain ⟨r1,r2⟩:=r
   simp only at hr0; subst hr0
   simp only at hc
   cases hlt:Nat.blt o n
   ·rw [hlt] at hc; cases hc
   ·rw [hlt] at hc
    have hc:some (bv x o)=some v:=by
     rw [← hc]
     show some (Value.int .u8 (.ofNat (Nat.mod (Nat.shiftRight x (Nat.mul 8 o)) 256)))=_
     cases Nat.mod (Nat.shiftRight x (Nat.mul 8 o)) 256 <;> rfl
    cases hc
    have hlt:o<n:=Nat.le_of_ble_eq_true hlt
    exact ⟨_,hB.cell (by simpa using bl_get hlt),rfl⟩
  case gro sz vs =>
   simp only at hc
   cases hv:vs[o]? with
   | none=>rw [hv] at hc; cases hc
   | some u =>
    rw [hv] at hc
    simp only at hc
    cases hs:stillS u
    ·rw [hs] at hc; cases hc
    ·rw [hs] at hc; cases hc
     rcases h.blk b _ r hb h2 with ⟨rfl,_⟩ | ⟨_,_,cs,hB,hcs,hle⟩
     ·simp at hv
     ·refine ⟨v,hB.cell ?_,SR.still hs⟩
      rw [← hcs] at hv
      rw [List.getElem?_take] at hv
      split at hv
      ·rw [List.getElem?_drop] at hv; rw [← hv]; congr 1; simp; omega
      ·cases hv
def lcells (L:LH) (a:Addr) (n:Nat):Option (List Value) :=
 match a with
 | ⟨b,o,none⟩=>match L[b]? with
  | some (.cells _ vs)=>bif Nat.ble (o+n) vs.length then some ((vs.drop o).take n) else none
  | some (.data vs)=>bif Nat.ble (o+n) vs.length && ((vs.drop o).take n).all stillS then some ((vs.drop o).take n) else none
  | some (.bytes N x)=>bif Nat.ble (o+n) N then some (blF x o n) else none
  | some (.gro _ vs)=>bif Nat.ble (o+n) vs.length && ((vs.drop o).take n).all stillS && !vs.isEmpty then some ((vs.drop o).take n) else none
  | _=>none
 | _=>none
theorem lcells_ok (h:Rep X w0 E L w) {a a':Addr} {n:Nat} {vs:List Value} (ha:AR E a a') (hc:lcells L a n=some vs) :
  ∃ cs vs':List Value,Blk w a'.block cs∧a'.spot=none∧a'.off+n≤cs.length∧vs'=(cs.drop a'.off).take n∧L2 (SR E) vs vs'∧vs'.length=n:=by
 obtain ⟨b,o,s⟩:=a
 obtain ⟨h1,r,h2,rfl⟩:=ha
 cases h1
 simp only [lcells] at hc
 cases hb:L[b]? with
 | none=>rw [hb] at hc; cases hc
 | some x =>
  rw [hb] at hc
  cases x <;> first | (cases hc; done) | skip
  case cells sz us =>
   simp only at hc
   cases hl:Nat.ble (o+n) us.length
   ·rw [hl] at hc; cases hc
   ·rw [hl] at hc; cases hc
    have hle:=Nat.le_of_ble_eq_true hl
    obtain ⟨cs,hB,h3,h4,_⟩:=h.blk b _ r hb h2
    have h5:=(h3.drop o).take n
    have e:(((cs.drop r.2.1).take us.length).drop o).take n=(cs.drop (o+r.2.1)).take n:=by
     rw [List.drop_take,List.take_take,List.drop_drop]
     congr 1
     ·omega
     ·rw [Nat.add_comm]
    rw [e] at h5
    exact ⟨cs,_,hB,rfl,by simp; omega,rfl,h5,by simp; omega⟩
  case data us =>
   simp only at hc
   cases hl:(Nat.ble (o+n) us.length && ((us.drop o).take n).all stillS)
   ·rw [hl] at hc; cases hc
   ·rw [hl] at hc; cases hc
    rw [Bool.and_eq_true] at hl
    have hle:=Nat.le_of_ble_eq_true hl.1
    obtain ⟨hB,hr0⟩:=h.blk b _ r hb h2
    obtain ⟨r1,r2⟩:=r
    simp only at hr0; subst hr0
    exact ⟨us,_,hB,rfl,by simp; omega,rfl,by simpa using L2.self fun a ha=>SR.still (List.all_eq_true.1 hl.2 a ha),by simp; omega⟩
  case bytes N y =>
   simp only at hc
   cases hl:Nat.ble (o+n) N
   ·rw [hl] at hc; cases hc
   ·rw [hl] at hc; cases hc
    have hle:=Nat.le_of_ble_eq_true hl
    obtain ⟨hB,hr0⟩:=h.blk b _ r hb h2
    obtain ⟨r1,r2⟩:=r
    simp only at hr0; subst hr0
    have hq:=blF_eq (x:=y) n o hle
    refine ⟨_,_,hB,rfl,by rw [bl_length]; simpa using hle,rfl,?_,by simp [bl_length]; omega⟩
    simp only [Nat.add_zero]
    rw [hq]
    exact L2.self fun a ha=>SR.still (List.all_eq_true.1 (bl_still N y) a (List.mem_of_mem_drop (List.mem_of_mem_take (hq ▸ ha))))
  case gro sz us =>
   simp only at hc
   cases hl:(Nat.ble (o+n) us.length && ((us.drop o).take n).all stillS && !us.isEmpty)
   ·rw [hl] at hc; cases hc
   ·rw [hl] at hc; cases hc
    simp only [Bool.and_eq_true] at hl
    have hle:=Nat.le_of_ble_eq_true hl.1.1
    rcases h.blk b _ r hb h2 with ⟨rfl,_⟩ | ⟨_,_,cs,hB,hcs,hle2⟩
    ·simp at hl
    ·have e:(cs.drop (o+r.2.1)).take n=(us.drop o).take n:=by
      have h6:(us.drop o).take n=(((cs.drop r.2.1).take us.length).drop o).take n:=by rw [hcs]
      rw [h6,List.drop_take,List.take_take,List.drop_drop]
      congr 1
      ·omega
      ·rw [Nat.add_comm]
     refine ⟨cs,_,hB,rfl,by simp; omega,rfl,?_,by simp; omega⟩
     simp only [e]
     exact L2.self fun a ha=>SR.still (List.all_eq_true.1 hl.1.2 a ha)
end
end Go.Tum
end
section
namespace Go.Tum
open Go
def bldL (l:Env):List Value→List (Nat × Nat × Operand)→Option (List Value)
 | zero,[]=>some zero
 | zero,(off,sz,x)::r=>match lv l x with
  | some u=>bif notTup u && Nat.beq (cellsL u).length sz then (match setL zero off (cellsL u) with
   | some z=>bldL l z r
   | none=>none) else none
  | none=>none
theorem setL_L2 {R:Value→Value→Prop}:∀ (z:List Value) (o:Nat) (vs:List Value) {r z' vs':List Value},setL z o vs=some r→L2 R z z'→L2 R vs vs'→∃ r',setL z' o vs'=some r'∧L2 R r r'
 | z,o,[],r,z',vs',h,hz,hv=>by
  cases vs' with
  | cons=>exact hv.elim
  | nil=>simp only [setL] at h; cases h; exact ⟨z',by simp [setL],hz⟩
 | [],o,v::vs,r,z',vs',h,hz,hv=>by simp only [setL] at h; cases h
 | a::z,0,v::vs,r,z',vs',h,hz,hv=>by
  cases z' with
  | nil=>exact hz.elim
  | cons a' z' =>
   cases vs' with
   | nil=>exact hv.elim
   | cons v' vs' =>
    simp only [setL] at h
    cases hq:setL z 0 vs with
    | none=>rw [hq] at h; cases h
    | some r1 =>
     rw [hq] at h; cases h
     obtain ⟨r',h1,h2⟩:=setL_L2 z 0 vs hq hz.2 hv.2
     exact ⟨v'::r',by simp only [setL,h1],hv.1,h2⟩
 | a::z,o+1,v::vs,r,z',vs',h,hz,hv=>by
  cases z' with
  | nil=>exact hz.elim
  | cons a' z' =>
   cases vs' with
   | nil=>exact hv.elim
   | cons v' vs' =>
    simp only [setL] at h
    cases hq:setL z o (v::vs) with
    | none=>rw [hq] at h; cases h
    | some r1 =>
     rw [hq] at h; cases h
     obtain ⟨r',h1,h2⟩:=setL_L2 z o (v::vs) hq hz.2 hv
     exact ⟨a'::r',by simp only [setL,h1],hz.1,h2⟩
theorem bldL_ok {E:Emb} {l l':Env} (hl:ER E l l'):∀ (ps:List (Nat × Nat × Operand)) (z z':List Value) {vs:List Value},bldL l z ps=some vs→L2 (SR E) z z'→∃ vs',bldv l' z' ps=some vs'∧L2 (SR E) vs vs'
 | [],z,z',vs,h,hz=>by cases h; exact ⟨z',rfl,hz⟩
 | (off,sz,x)::r,z,z',vs,h,hz=>by
  simp only [bldL] at h
  cases hx:lv l x with
  | none=>rw [hx] at h; cases h
  | some u =>
   rw [hx] at h
   simp only at h
   cases hb:(notTup u && Nat.beq (cellsL u).length sz)
   ·rw [hb] at h; cases h
   ·rw [hb] at h
    simp only [cond_true] at h
    rw [Bool.and_eq_true] at hb
    cases hq:setL z off (cellsL u) with
    | none=>rw [hq] at h; cases h
    | some z1 =>
     rw [hq] at h
     obtain ⟨u',h1,h2⟩:=lv_ev hl hx
     have hc:=h2.cellsL hb.1
     obtain ⟨z2,h3,h4⟩:=setL_L2 _ _ _ hq hz hc
     obtain ⟨vs',h5,h6⟩:=bldL_ok hl r z1 z2 h h4
     refine ⟨vs',?_,h6⟩
     simp only [bldv,h1,hc.length,hb.2,cond_true,h3,h5]
def lint (l:Env) (x:Operand):Option Int :=
 match lv l x with
 | some (.int _ i)=>some i
 | _=>none
theorem lint_ok {E:Emb} {l l':Env} {x:Operand} {i:Int} (hl:ER E l l') (h:lint l x=some i):∃ k,ev l' x=some (.int k i):=by
 unfold lint at h
 cases hx:lv l x with
 | none=>rw [hx] at h; cases h
 | some v =>
  rw [hx] at h
  cases v <;> first | (cases h; done) | skip
  case int k j=>cases h; obtain ⟨v',h1,rfl⟩:=lv_ev hl hx; exact ⟨k,h1⟩
def lbound (l:Env) (x:Option Operand) (d:Nat):Option Nat :=
 match x with
 | none=>some d
 | some x=>match lint l x with
  | some (.ofNat i)=>some i
  | _=>none
theorem lbound_ok {E:Emb} {l l':Env} {x:Option Operand} {d k:Nat} (hl:ER E l l') (h:lbound l x d=some k):obound l' x d k:=by
 cases x with
 | none=>cases h; rfl
 | some x =>
  simp only [lbound] at h
  cases hi:lint l x with
  | none=>rw [hi] at h; cases h
  | some i =>
   rw [hi] at h
   cases i with
   | negSucc i=>cases h
   | ofNat i=>cases h; obtain ⟨kd,hk⟩:=lint_ok hl hi; exact ⟨kd,_,hk,Int.natCast_nonneg _,rfl⟩
def lptr (l:Env) (x:Operand):Option Addr :=
 match lv l x with
 | some (.pointer (some p))=>(match p.spot with
  | none=>some p
  | some _=>none)
 | _=>none
theorem lptr_ok {E:Emb} {l l':Env} {x:Operand} {p:Addr} (hl:ER E l l') (h:lptr l x=some p):∃ p',ev l' x=some (.pointer (some p'))∧AR E p p':=by
 unfold lptr at h
 cases hx:lv l x with
 | none=>rw [hx] at h; cases h
 | some v =>
  rw [hx] at h
  cases v <;> first | (cases h; done) | skip
  case pointer a =>
  rcases a with _ | ⟨b,o,_ | s⟩ <;> cases h
  obtain ⟨v',h1,a',rfl,h2⟩:=lv_ev hl hx
  exact ⟨a',h1,h2⟩
theorem AR.vr {E:Emb} {a a':Addr} (h:AR E a a'):VR E (.pointer (some a)) (.pointer (some a')):=by
 rcases a with ⟨b,o,_ | s⟩
 ·exact ⟨a',rfl,h⟩
 ·cases h.1
def ikEq (a b:IntKind):Bool:=decide (a=b)
def s0:Value→Bool
 | .func _ _ _=>false
 | .agg _=>false
 | .tuple _=>false
 | _=>true
theorem VR.s0 {E:Emb} {v v':Value} (h:VR E v v') (h0:Tum.s0 v=true):S0 E v v':=by
 cases v <;> first|exact h | cases h0
theorem L2.s0 {E:Emb}:∀ {x y:List Value},x.all Tum.s0=true→L2 (VR E) x y→L2 (S0 E) x y
 | [],[],_,_=>trivial
 | _::_,_::_,h,k=>by
  simp only [List.all_cons,Bool.and_eq_true] at h
  exact ⟨k.1.s0 h.1,L2.s0 h.2 k.2⟩
 | [],_::_,_,k=>k.elim
 | _::_,[],_,k=>k.elim
def lq (lraw:LH→Env→Oper→Option Value) (L:LH) (l:Env):QOp→Option Value
 | .mov x=>lv l x
 | .pick c a b=>match lv l c with
  | some (.bool t)=>bif t then lv l a else lv l b
  | _=>none
 | .nilc x=>match lv l x with
  | some (.pointer (some p))=>some (.pointer (some p))
  | some (.func (.func f) a c)=>some (.func (.func f) a c)
  | _=>none
 | .fld x off=>match lptr l x with
  | some p=>some (.pointer (some (p.add off)))
  | none=>none
 | .fldv x off=>match lv l x with
  | some (.agg ⟨cs⟩)=>cs[off]?
  | _=>none
 | .fldn x off k=>match lv l x with
  | some (.agg ⟨cs⟩)=>some (.agg ⟨(cs.take (off+k)).drop off⟩)
  | _=>none
 | .idx x i size=>match lv l x,lint l i with
  | some (.slice (some p) n _),some (.ofNat j)=>bif Nat.blt j n then (match p.spot with
   | none=>some (.pointer (some (p.add (j*size))))
   | some s=>some (.pointer (some ⟨p.block,p.off+j*size,some s⟩))) else none
  | _,_=>none
 | .idxa x i n size=>match lptr l x,lint l i with
  | some p,some (.ofNat j)=>bif Nat.blt j n then some (.pointer (some (p.add (j*size)))) else none
  | _,_=>none
 | .ext x k=>match lv l x with
  | some (.tuple ⟨vs⟩)=>vs[k]?
  | _=>none
 | .bin op x y=>match lv l x,lv l y with
  | some (.int k a),some (.int k' b)=>bif ikEq k k' then (match ibin op k a b with
   | some v=>bif still v then some v else none
   | none=>none) else none
  | _,_=>none
 | .nilp neg x=>match lv l x with
  | some (.pointer p)=>some (.bool (if neg then p.isSome else p.isNone))
  | _=>none
 | .un op x=>match op,lv l x with
  | .not,some (.bool b)=>some (.bool (!b))
  | .neg,some (.int k n)=>some (.int k (k.wrap (0-n)))
  | _,_=>none
 | .cvi k x=>match lint l x with
  | some i=>some (.int k (k.wrap i))
  | none=>none
 | .len x=>match lv l x with
  | some (.slice _ n _)=>some (.int .i64 n)
  | _=>none
 | .slc x lo hi size=>match lv l x with
  | some (.slice p n c)=>match lbound l lo 0,lbound l hi n with
   | some lo',some hi'=>bif Nat.ble lo' hi' && Nat.ble hi' c then (match p with
    | none=>some (.slice none (hi'-lo') (c-lo'))
    | some p=>match p.spot with
     | none=>some (.slice (some (p.add (lo'*size))) (hi'-lo') (c-lo'))
     | some _=>bif Nat.beq lo' 0 then some (.slice (some p) hi' c) else none) else none
   | _,_=>none
  | _=>none
 | .bld zero parts=>bif zero.all stillS then (match bldL l zero parts with
   | some vs=>some (.agg ⟨vs⟩)
   | none=>none) else none
 | .ld x=>match lptr l x with
  | some p=>lcell L p
  | none=>none
 | .ldn x n=>match lptr l x with
  | some p=>match lcells L p n with
   | some vs=>some (.agg ⟨vs⟩)
   | none=>none
  | none=>none
 | .sh lft x y=>match lv l x,lv l y with
  | some (.int k a),some (.int _ (.ofNat n))=>some (.int k (ishift lft k a (.ofNat n)))
  | _,_=>none
 | .xorn x=>match lv l x with
  | some (.int k n)=>some (.int k (ixorn k n))
  | _=>none
 | .mm mx x y=>match lv l x,lv l y with
  | some (.int k a),some (.int k' b)=>bif ikEq k k' then some (.int k (imm mx a b)) else none
  | _,_=>none
 | .mkf fn first cap=>match lvs l first,lvs l cap with
  | some a,some c=>bif a.all s0 && c.all s0 then some (.func fn ⟨a⟩ ⟨c⟩) else none
  | _,_=>none
 | .raw o=>lraw L l o
def RawOk (P:Program) (lraw:LH→Env→Oper→Option Value):Prop :=
 ∀ X w0 w E L l l' o v,lraw L l o=some v→Rep X w0 E L w→ER E l l'→∃ v',(QOp.raw o).Y P l' v' w∧VR E v v'
theorem lq_ok {P:Program} {lraw:LH→Env→Oper→Option Value} (hr:RawOk P lraw) {X:Nat→Prop} {w0 w:World} {E:Emb} {L:LH} {l l':Env} {q:QOp} {v:Value} (h:lq lraw L l q=some v) (hR:Rep X w0 E L w) (hl:ER E l l') :
  ∃ v',q.Y P l' v' w∧VR E v v':=by
 cases q with
 | mov x=>exact lv_ev hl h
 | pick c a b =>
  simp only [lq] at h
  cases hc:lv l c with
  | none=>rw [hc] at h; cases h
  | some t =>
   rw [hc] at h
   cases t <;> first | (cases h; done) | skip
   case bool t =>
   obtain ⟨t',h1,rfl⟩:=lv_ev hl hc
   cases t
   ·obtain ⟨v',h2,h3⟩:=lv_ev hl h; exact ⟨v',⟨false,h1,h2⟩,h3⟩
   ·obtain ⟨v',h2,h3⟩:=lv_ev hl h; exact ⟨v',⟨true,h1,h2⟩,h3⟩
 | nilc x =>
  simp only [lq] at h
  cases hx:lv l x with
  | none=>rw [hx] at h; cases h
  | some u =>
   rw [hx] at h
   obtain ⟨u',h1,h2⟩:=lv_ev hl hx
   split at h <;> first | (cases h; done) | skip
   ·rename_i p hp
    cases hp; cases h
    rcases p with ⟨b,o,_ | s⟩
    ·obtain ⟨p',rfl,h3⟩:=h2
     exact ⟨_,.inl ⟨p',h1,rfl⟩,p',rfl,h3⟩
    ·have h2:_=_:=h2
     subst h2
     exact ⟨_,.inl ⟨_,h1,rfl⟩,rfl⟩
   ·rename_i f a c hp
    cases hp; cases h
    obtain ⟨a⟩:=a
    obtain ⟨c⟩:=c
    obtain ⟨a',c',rfl,h3⟩:=h2
    exact ⟨_,.inr ⟨f,⟨a'⟩,⟨c'⟩,h1,rfl⟩,a',c',rfl,h3⟩
 | fld x off =>
  simp only [lq] at h
  cases hx:lptr l x with
  | none=>rw [hx] at h; cases h
  | some p=>rw [hx] at h; cases h; obtain ⟨⟨b,o,s⟩,h1,h2⟩:=lptr_ok hl hx; exact ⟨_,⟨b,o,s,h1,rfl⟩,(h2.add off).vr⟩
 | fldv x off =>
  simp only [lq] at h
  cases hx:lv l x with
  | none=>rw [hx] at h; cases h
  | some u =>
   rw [hx] at h
   cases u <;> first | (cases h; done) | skip
   case agg cs =>
   obtain ⟨cs⟩:=cs
   obtain ⟨u',h1,cs',rfl,h2⟩:=lv_ev hl hx
   obtain ⟨v',h3,h4⟩:=h2.get h
   exact ⟨v',⟨_,h1,by simpa using h3⟩,h4.vr⟩
 | fldn x off k =>
  simp only [lq] at h
  cases hx:lv l x with
  | none=>rw [hx] at h; cases h
  | some u =>
   rw [hx] at h
   cases u <;> first | (cases h; done) | skip
   case agg cs =>
   obtain ⟨cs⟩:=cs
   cases h
   obtain ⟨u',h1,cs',rfl,h2⟩:=lv_ev hl hx
   refine ⟨_,⟨_,h1,rfl⟩,((cs'.take (off+k)).drop off),?_,(h2.take (off+k)).drop off⟩
   simp [List.drop_take]
 | idx x i size =>
  simp only [lq] at h
  cases hx:lv l x with
  | none=>rw [hx] at h; cases h
  | some u =>
   rw [hx] at h
   cases u <;> first | (cases h; done) | skip
   case slice p n c =>
   cases p <;> first | (cases h; done) | skip
   case some p =>
   cases hi:lint l i with
   | none=>rw [hi] at h; cases h
   | some j =>
    rw [hi] at h
    cases j <;> first | (cases h; done) | skip
    case ofNat j =>
    simp only at h
    cases hb:Nat.blt j n
    ·rw [hb] at h; cases h
    ·rw [hb] at h
     have hlt:j<n:=Nat.le_of_ble_eq_true hb
     obtain ⟨k,hk⟩:=lint_ok hl hi
     rcases p with ⟨pb,po,_ | s⟩
     rotate_left
     ·cases h
      obtain ⟨u',h1,rfl | ⟨h2,_,_⟩⟩:=lv_ev hl hx
      rotate_left
      ·omega
      refine ⟨_,⟨_,n,_,k,_,h1,hk,Int.natCast_nonneg _,by simpa using hlt,rfl⟩,?_⟩
      show Value.pointer (some (Addr.add _ _))=_
      rw [add_none]; rfl
     cases h
     obtain ⟨u',h1,h2,r,h3,⟨a',c',rfl,h4⟩ | ⟨h4,_⟩⟩:=lv_ev hl hx
     rotate_left
     ·omega
     rcases h4 with ⟨h4,h5⟩ | ⟨h4,_⟩
     ·exact ⟨_,⟨_,n,_,k,_,h1,hk,Int.natCast_nonneg _,by simpa using hlt,rfl⟩,(AR.add (a:=⟨pb,po,none⟩) ⟨h2,r,h3,h4⟩ _).vr⟩
     ·omega
 | idxa x i n size =>
  simp only [lq] at h
  cases hx:lptr l x with
  | none=>rw [hx] at h; cases h
  | some p =>
   rw [hx] at h
   cases hi:lint l i with
   | none=>rw [hi] at h; cases h
   | some j =>
    rw [hi] at h
    cases j <;> first | (cases h; done) | skip
    case ofNat j =>
    simp only at h
    cases hb:Nat.blt j n
    ·rw [hb] at h; cases h
    ·rw [hb] at h; cases h
     have hlt:j<n:=Nat.le_of_ble_eq_true hb
     obtain ⟨k,hk⟩:=lint_ok hl hi
     obtain ⟨p',h1,h2⟩:=lptr_ok hl hx
     exact ⟨_,⟨_,k,_,h1,hk,Int.natCast_nonneg _,by simpa using hlt,rfl⟩,(h2.add _).vr⟩
 | ext x k =>
  simp only [lq] at h
  cases hx:lv l x with
  | none=>rw [hx] at h; cases h
  | some u =>
   rw [hx] at h
   cases u <;> first | (cases h; done) | skip
   case tuple cs =>
   obtain ⟨cs⟩:=cs
   obtain ⟨u',h1,cs',rfl,h2⟩:=lv_ev hl hx
   obtain ⟨v',h3,h4⟩:=h2.get h
   exact ⟨v',⟨_,h1,by simpa using h3⟩,h4.vr⟩
 | bin op x y =>
  simp only [lq] at h
  cases hx:lv l x with
  | none=>rw [hx] at h; cases h
  | some u =>
   rw [hx] at h
   cases u <;> first | (cases h; done) | skip
   case int k a =>
   cases hy:lv l y with
   | none=>rw [hy] at h; cases h
   | some u =>
    rw [hy] at h
    cases u <;> first | (cases h; done) | skip
    case int k' b =>
    simp only at h
    cases he:ikEq k k'
    ·rw [he] at h; cases h
    ·rw [he] at h
     have he:=of_decide_eq_true he
     subst he
     simp only [cond_true] at h
     cases hb:ibin op k a b with
     | none=>rw [hb] at h; cases h
     | some u =>
      rw [hb] at h
      simp only at h
      cases hs:still u
      ·rw [hs] at h; cases h
      ·rw [hs] at h; cases h
       obtain ⟨_,h1,rfl⟩:=lv_ev hl hx
       obtain ⟨_,h2,rfl⟩:=lv_ev hl hy
       exact ⟨v,⟨k,a,b,h1,h2,hb⟩,VR.still hs⟩
 | nilp neg x =>
  simp only [lq] at h
  cases hx:lv l x with
  | none=>rw [hx] at h; cases h
  | some u =>
   rw [hx] at h
   cases u <;> first | (cases h; done) | skip
   case pointer p =>
   cases h
   cases p with
   | none=>obtain ⟨_,h1,rfl⟩:=lv_ev hl hx; exact ⟨_,⟨_,h1,rfl⟩,rfl⟩
   | some p =>
    rcases p with ⟨b,o,_ | s⟩
    ·obtain ⟨_,h1,p',rfl,_⟩:=lv_ev hl hx; exact ⟨_,⟨_,h1,rfl⟩,rfl⟩
    ·obtain ⟨_,h1,h2⟩:=lv_ev hl hx
     have h2:_=Value.pointer _:=h2
     subst h2; exact ⟨_,⟨_,h1,rfl⟩,rfl⟩
 | un op x =>
  simp only [lq] at h
  cases hx:lv l x with
  | none=>rw [hx] at h; cases op <;> cases h
  | some u =>
   rw [hx] at h
   cases op <;> first | (cases h; done) | skip
   case not =>
    cases u <;> first | (cases h; done) | skip
    cases h; obtain ⟨_,h1,rfl⟩:=lv_ev hl hx; exact ⟨_,.inl ⟨_,rfl,h1,rfl⟩,rfl⟩
   case neg =>
    cases u <;> first | (cases h; done) | skip
    cases h; obtain ⟨_,h1,rfl⟩:=lv_ev hl hx; exact ⟨_,.inr ⟨_,_,rfl,h1,rfl⟩,rfl⟩
 | cvi k x =>
  simp only [lq] at h
  cases hx:lint l x with
  | none=>rw [hx] at h; cases h
  | some i=>rw [hx] at h; cases h; obtain ⟨k',hk⟩:=lint_ok hl hx; exact ⟨_,⟨k',i,hk,rfl⟩,rfl⟩
 | len x =>
  simp only [lq] at h
  cases hx:lv l x with
  | none=>rw [hx] at h; cases h
  | some u =>
   rw [hx] at h
   cases u <;> first | (cases h; done) | skip
   case slice p n c =>
   cases h
   cases p with
   | none=>obtain ⟨_,h1,rfl⟩:=lv_ev hl hx; exact ⟨_,⟨_,_,_,h1,rfl⟩,rfl⟩
   | some p =>
    rcases p with ⟨b,o,_ | s⟩
    ·obtain ⟨_,h1,_,r,_,⟨a',c',rfl,_⟩ | ⟨rfl,_,_,rfl⟩⟩:=lv_ev hl hx <;> exact ⟨_,⟨_,_,_,h1,rfl⟩,rfl⟩
    ·obtain ⟨_,h1,rfl | ⟨rfl,_,_,rfl⟩⟩:=lv_ev hl hx <;> exact ⟨_,⟨_,_,_,h1,rfl⟩,rfl⟩
 | slc x lo hi size =>
  simp only [lq] at h
  cases hx:lv l x with
  | none=>rw [hx] at h; cases h
  | some u =>
   rw [hx] at h
   cases u <;> first | (cases h; done) | skip
   case slice p n c =>
   simp only at h
   cases hlo:lbound l lo 0 with
   | none=>rw [hlo] at h; cases h
   | some lo' =>
    rw [hlo] at h
    cases hhi:lbound l hi n with
    | none=>rw [hhi] at h; cases h
    | some hi' =>
     rw [hhi] at h
     simp only at h
     cases hb:(Nat.ble lo' hi' && Nat.ble hi' c)
     ·rw [hb] at h; cases h
     ·rw [hb] at h
      simp only [cond_true] at h
      rw [Bool.and_eq_true] at hb
      have h1:=Nat.le_of_ble_eq_true hb.1
      have h2:=Nat.le_of_ble_eq_true hb.2
      have b1:=lbound_ok hl hlo
      have b2:=lbound_ok hl hhi
      cases p with
      | none =>
       cases h
       obtain ⟨_,h3,rfl⟩:=lv_ev hl hx
       refine ⟨_,⟨none,n,c,lo',hi',h3,b1,b2,h1,h2,rfl⟩,?_⟩
       show Value.slice _ _ _=Value.slice _ _ _
       congr 1
       split <;> rfl
      | some p =>
       rcases p with ⟨b,o,s⟩
       cases s with
       | some s =>
        simp only at h
        cases he:Nat.beq lo' 0
        ·rw [he] at h; cases h
        ·rw [he] at h; cases h
         obtain rfl:=Nat.eq_of_beq_eq_true he
         obtain ⟨_,h3,rfl | ⟨rfl,rfl,ax,rfl⟩⟩:=lv_ev hl hx
         ·refine ⟨_,⟨some ⟨b,o,none⟩,n,c,0,hi',h3,b1,b2,h1,h2,rfl⟩,.inl ?_⟩
          show Value.slice _ _ _=Value.slice _ _ _
          congr 1
          simp [Addr.add]
         ·obtain rfl:hi'=0:=by omega
          exact ⟨_,⟨ax,0,0,0,0,h3,b1,b2,h1,h2,rfl⟩,.inr ⟨rfl,rfl,ax,by simp⟩⟩
       | none =>
       cases h
       obtain ⟨_,h3,hs,r,h4,⟨a',c',rfl,h5⟩ | ⟨rfl,rfl,ax,rfl⟩⟩:=lv_ev hl hx
       ·cases hs
        refine ⟨_,⟨some a',n,c',lo',hi',h3,b1,b2,h1,by rcases h5 with ⟨_,h5⟩ | ⟨h5,h6,h7,_⟩ <;> omega,rfl⟩,?_⟩
        rw [add_none]
        rcases h5 with ⟨rfl,rfl⟩ | ⟨rfl,rfl,rfl,o',rfl,ho'⟩
        ·refine ⟨rfl,r,h4,.inl ⟨(if c+r.2.2=lo' then ⟨r.1,o+r.2.1,none⟩ else Addr.add ⟨r.1,o+r.2.1,none⟩ (lo'*size)),c+r.2.2-lo',by split <;> rfl,?_⟩⟩
         by_cases e:c+r.2.2=lo'
         ·right
          rw [if_pos e]
          exact ⟨by omega,by omega,by omega,_,rfl,by simp⟩
         ·left
          rw [if_neg e,add_none]
          exact ⟨by simp; omega,by omega⟩
        ·have e1:lo'=0:=by omega
         subst e1
         refine ⟨rfl,r,h4,.inl ⟨⟨r.1,o',none⟩,0,by simp,.inr ⟨by omega,by omega,rfl,o',rfl,by simpa using ho'⟩⟩⟩
       ·cases hs
        have e1:lo'=0:=by omega
        have e2:hi'=0:=by omega
        subst e1; subst e2
        refine ⟨_,⟨ax,0,0,0,0,h3,b1,b2,h1,by omega,rfl⟩,?_⟩
        rw [add_none]
        exact ⟨rfl,r,h4,.inr ⟨rfl,rfl,ax,by simp⟩⟩
 | bld zero parts =>
  simp only [lq] at h
  cases hz:zero.all stillS
  ·rw [hz] at h; cases h
  ·rw [hz] at h
   simp only [cond_true] at h
   cases hb:bldL l zero parts with
   | none=>rw [hb] at h; cases h
   | some vs =>
    rw [hb] at h; cases h
    obtain ⟨vs',h1,h2⟩:=bldL_ok hl parts zero zero hb (L2.self fun a ha=>SR.still (List.all_eq_true.1 hz a ha))
    exact ⟨_,⟨vs',h1,rfl⟩,vs',rfl,h2⟩
 | ld x =>
  simp only [lq] at h
  cases hx:lptr l x with
  | none=>rw [hx] at h; cases h
  | some p =>
   rw [hx] at h
   obtain ⟨p',h1,h2⟩:=lptr_ok hl hx
   obtain ⟨v',h3,h4⟩:=lcell_ok hR h2 h
   exact ⟨v',⟨p',h1,h3⟩,h4.vr⟩
 | ldn x n =>
  simp only [lq] at h
  cases hx:lptr l x with
  | none=>rw [hx] at h; cases h
  | some p =>
   rw [hx] at h
   simp only at h
   cases hc:lcells L p n with
   | none=>rw [hc] at h; cases h
   | some vs =>
    rw [hc] at h; cases h
    obtain ⟨⟨b,o,s⟩,h1,h2⟩:=lptr_ok hl hx
    obtain ⟨cs,vs',hB,hs,hle,rfl,h3,h4⟩:=lcells_ok hR h2 hc
    cases hs
    refine ⟨_,⟨_,((cs.drop o).take n).toArray,h1,by simpa using h4,fun i hi=>?_,rfl⟩,_,rfl,h3⟩
    rw [add_none,hB.cellEq]
    simp [hi]
 | sh lft x y =>
  simp only [lq] at h
  split at h <;> first | (cases h; done) | skip
  rename_i k a k' n hx hy
  cases h
  obtain ⟨_,h1,rfl⟩:=lv_ev hl hx
  obtain ⟨_,h2,rfl⟩:=lv_ev hl hy
  exact ⟨_,⟨k,a,k',_,h1,h2,Int.natCast_nonneg _,rfl⟩,rfl⟩
 | xorn x =>
  simp only [lq] at h
  split at h <;> first | (cases h; done) | skip
  rename_i k n hx
  cases h
  obtain ⟨_,h1,rfl⟩:=lv_ev hl hx
  exact ⟨_,⟨k,n,h1,rfl⟩,rfl⟩
 | mm mx x y =>
  simp only [lq] at h
  split at h <;> first | (cases h; done) | skip
  rename_i k a k' b hx hy
  cases he:ikEq k k'
  ·rw [he] at h; cases h
  rw [he] at h; cases h
  have he:=of_decide_eq_true he
  subst he
  obtain ⟨_,h1,rfl⟩:=lv_ev hl hx
  obtain ⟨_,h2,rfl⟩:=lv_ev hl hy
  exact ⟨_,⟨k,a,b,h1,h2,rfl⟩,rfl⟩
 | mkf fn first cap =>
  simp only [lq] at h
  split at h <;> first | (cases h; done) | skip
  rename_i a c ha hc
  cases hs:(a.all s0 && c.all s0)
  ·rw [hs] at h; cases h
  rw [hs] at h; cases h
  rw [Bool.and_eq_true] at hs
  obtain ⟨a',h1,h2⟩:=lvs_evs hl ha
  obtain ⟨c',h3,h4⟩:=lvs_evs hl hc
  exact ⟨_,⟨a',c',h1,h3,rfl⟩,a',c',rfl,L2.s0 hs.1 h2,L2.s0 hs.2 h4⟩
 | raw o=>exact hr _ _ _ _ _ _ _ _ _ h hR hl
end Go.Tum
end
