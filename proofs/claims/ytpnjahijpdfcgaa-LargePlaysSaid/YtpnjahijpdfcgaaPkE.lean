/-
  What the proof leans on, part 5: of the texts Code, Tab, BaseC, LargeC, LargeD, Lw23, Lw19, Lw20, Lw28, Lw26, Lw29, Lw24, Lw30, ReaS, LargeA, LargeB, LargeE, RLargeA, RLargeB.
-/
import Derived.Test.YtpnjahijpdfcgaaPkD
import Derived.Ground.GgzProg
import Derived.Ground.SlgmProg
import Derived.Lib.AppendZerosOnto
import Derived.Lib.Overlaps
import Derived.Lib.SlKeysI
import Derived.OwnWalkIn
import Derived.Shelf.SlIterI.Keys
import Derived.Shelf.SlIterI.Sorted
import Derived.Shelf.SortM.Plain
import Derived.Shelf.SortM.SortNone
import Derived.Sort.OwnSortedInts
import Derived.TacticsInMore
import Derived.Test.YtpnjahijpdfcgaaProg
import Derived.WalkKit
set_option linter.unusedVariables false
set_option linter.unusedSimpArgs false
set_option linter.unusedSectionVars false
section
namespace Go.Sh
open Go Go.Tum
abbrev t (n:Nat):Operand:=.tmp n
abbrev i (n:Int):Operand:=.const (.int .i64 n)
abbrev m (d s:Nat):Step:=.q 0 (some d) none (.mov (.tmp s)) false
abbrev q (d:Nat) (op:QOp):Step:=.q 0 (some d) none op false
abbrev l (d s:Nat):Step:=.q 0 (some d) none (.ld (.tmp s)) true
abbrev k (j d:Nat) (op:QOp):Step:=.q j (some d) none op false
abbrev r (j d:Nat) (op:QOp):Step:=.q j (some d) none op true
abbrev g (j d c:Nat) (op:QOp):Step:=.q j (some d) (some (c,true)) op false
abbrev h (j d c:Nat) (op:QOp):Step:=.q j (some d) (some (c,true)) op true
abbrev n (j d c:Nat) (op:QOp):Step:=.q j (some d) (some (c,false)) op false
abbrev p (j d c:Nat) (op:QOp):Step:=.q j (some d) (some (c,false)) op true
abbrev e (d:Nat) (op:EOp) (pd:List Nat):Step:=.e (some d) none op pd
abbrev w (op:EOp) (pd:List Nat):Step:=.e none none op pd
abbrev o (x:Op) (ty:TypeId):Oper:=⟨none,x,ty, "",[].toArray,none⟩
abbrev s (a b:MC):MC:=.seq a b
abbrev x (l:List Step) (b:MC):MC:=.seq (.reg l) b
end Go.Sh
namespace Go.Proofs.Ytpnjahijpdfcgaa
open Go Go.Tum Go.Sh
abbrev EOk (k nt:Nat) (m:MC) (f:Func):Prop:=∀ {args:List Value} {w:World} {R:Value→World→Prop},Nat.ble args.length nt=true→MWp Try.prog m (RQ Try.prog f R) (initEnv 0 args) w→Does Try.prog k args.toArray w R
def m_tumbrellaw08_LargePlays:MC:=(x [q 6 (.mov (.const (.bool false)))] (x [m 25 1,q 26 (.cvi .i64 (t 25)),q 27 (.bin .rem (t 26) (i 12)),m 7 27] (x [m 28 7,e 29 (.call 4 [t 28]) [],m 30 0,e 31 (.call 5 [t 30]) [],e 9 (.new 27 [.int .u64 0]) [],m 8 29,w (.stn (t 9) (t 31) 1) []] (s (.regT (.q 0 (some 32) none (.mov (t 8)) false (.q 1 (some 33) none (.ldn (t 9) 1) true (.q 3 (some 35) none (.mov (t 7)) false (.q 4 (some 36) none (.bin .mul (i 256) (t 35)) false (.q 6 (some 38) none (.fld (t 9) 0) false (.q 7 (some 39) none (.ld (t 38)) true (.alt (.e (some 34) none (.call 6 [t 32,t 33]) [7] (.q 10 (some 10) none (.mov (t 34)) false (.e (some 37) none (.raw (o (.makeSlice 32 (t 36) (t 36)) 32)) [7] (.q 8 (some 40) none (.bld [.slice none 0 0,.int .u64 0,.slice none 0 0] [(0,(1,(t 37))),(1,(1,(t 39)))]) false (.e (some 41) none (.box 35 (t 40)) [7] (.q 11 (some 11) none (.mov (t 41)) false .done)))))) (.e (some 37) none (.raw (o (.makeSlice 32 (t 36) (t 36)) 32)) [7,1] (.q 8 (some 40) none (.bld [.slice none 0 0,.int .u64 0,.slice none 0 0] [(0,(1,(t 37))),(1,(1,(t 39)))]) false (.alt (.e (some 34) none (.call 6 [t 32,t 33]) [7] (.q 10 (some 10) none (.mov (t 34)) false (.e (some 41) none (.box 35 (t 40)) [7] (.q 11 (some 11) none (.mov (t 41)) false .done)))) (.e (some 41) none (.box 35 (t 40)) [7,1] (.e (some 34) none (.call 6 [t 32,t 33]) [7] (.q 10 (some 10) none (.mov (t 34)) false (.q 11 (some 11) none (.mov (t 41)) false .done))))))))))))))) (s (x [m 42 2,q 43 (.len (t 42)),q 44 (.mov (i 0))] (.block 0 (.loop (x [q 45 (.bin .lss (t 44) (t 43))] (s (.cond (t 45) .skip (.exit 0)) (s (.block 1 (x [m 46 44,q 47 (.idx (t 42) (t 44) 5),r 0 48 (.ldn (t 47) 5),e 13 (.new 37 [.int .i64 0,.int .i64 0,.int .i64 0,.int .i64 0,.slice none 0 0]) [],m 12 46,w (.stn (t 13) (t 48) 5) []] (s (x [m 49 12,q 50 (.bin .geq (t 49) (i 25))] (.cond (t 50) (.exit 0) .skip)) (s (x [q 51 (.fld (t 13) 4),l 52 51,q 53 (.len (t 52)),q 54 (.bin .gtr (t 53) (i 60))] (.cond (t 54) (.reg [q 55 (.fld (t 13) 4),l 56 55,q 57 (.slc (t 56) none (some (i 60)) 1),q 58 (.fld (t 13) 4),w (.st (t 58) (t 57)) []]) .skip)) (s (x [q 59 (.fld (t 13) 0),l 60 59] (.block 2 (s (x [q 62 (.bin .eql (t 60) (i 0)),m 61 62] (.cond (t 61) .skip (x [q 63 (.bin .eql (t 60) (i 1)),m 61 63] (.cond (t 61) .skip (.reg [q 64 (.bin .eql (t 60) (i 2)),m 61 64]))))) (.cond (t 61) (x [m 65 10,k 1 66 (.fld (t 13) 1),r 2 67 (.ld (t 66)),k 3 68 (.fld (t 13) 2),r 4 69 (.ld (t 68)),k 6 71 (.mov (t 11)),k 7 72 (.fld (t 13) 1),r 8 73 (.ld (t 72)),k 9 74 (.fld (t 13) 2),r 10 75 (.ld (t 74)),e 70 (.call 7 [t 65,t 67,t 69]) [10,8],e 76 (.call 8 [t 71,t 73,t 75]) [],k 12 77 (.bin .neq (t 70) (t 76))] (.cond (t 77) (x [q 6 (.mov (.const (.bool false)))] .ret) .skip)) (s (x [q 79 (.bin .eql (t 60) (i 3)),m 78 79] (.cond (t 78) .skip (.reg [q 80 (.bin .eql (t 60) (i 4)),m 78 80]))) (.cond (t 78) (x [m 82 10,q 83 (.fld (t 13) 1),l 84 83,e 85 (.call 9 [t 82,t 84]) [],m 81 85,q 86 (.ext (t 81) 0),q 87 (.ext (t 81) 1),m 14 86,m 15 87] (x [m 89 11,q 90 (.fld (t 13) 1),l 91 90,e 92 (.call 10 [t 89,t 91]) [],m 88 92,q 93 (.ext (t 88) 0),q 94 (.ext (t 88) 1),m 16 93,m 17 94] (x [m 95 14,m 96 16,r 0 97 (.raw (o (.binOp .neq 4 (t 95) (t 96) 4) 4)),m 98 97,n 0 99 98 (.mov (t 15)),n 0 100 98 (.mov (t 17)),n 0 101 98 (.bin .neq (t 99) (t 100)),q 102 (.pick (t 98) (.const (.bool true)) (t 101))] (.cond (t 102) (x [q 6 (.mov (.const (.bool false)))] .ret) .skip)))) (x [q 104 (.bin .eql (t 60) (i 5)),m 103 104] (.cond (t 103) (x [m 105 8,q 106 (.fld (t 13) 3),l 107 106,q 108 (.fld (t 13) 4),l 109 108,e 110 (.call 11 [t 105,t 107,t 109]) [],q 111 (.bin .eql (t 110) (i 0))] (.cond (t 111) (x [e 112 (.bs0 5) [],m 113 11,q 114 (.nilc (t 113)),q 115 (.fld (t 114) 0),l 116 115,e 117 (.raw (o (.call ⟨(.builtin .append),[t 112,t 116].toArray,[32,32].toArray⟩) 32)) [],m 18 117] (x [m 118 18,k 1 119 (.fld (t 13) 3),r 2 120 (.ld (t 119)),k 3 121 (.slc (t 118) (some (t 120)) none 1),k 4 122 (.fld (t 13) 4),r 5 123 (.ld (t 122)),e 124 (.raw (o (.call ⟨(.builtin .copy),[t 121,t 123].toArray,[32,32].toArray⟩) 3)) [2]] (.reg [m 125 11,m 126 18,q 127 (.nilc (t 125)),q 128 (.fld (t 127) 0),w (.st (t 128) (t 126)) []]))) .skip)) .skip)))))))) (x [q 19 (.mov (.const (.bool true)))] (x [m 129 10,e 130 (.call 12 [t 129]) [],m 20 130] (s (x [m 131 20,q 132 (.len (t 131)),m 133 11,q 134 (.nilc (t 133)),q 135 (.fld (t 134) 2),l 136 135,q 137 (.len (t 136)),q 138 (.bin .neq (t 132) (t 137))] (.cond (t 138) (x [q 6 (.mov (.const (.bool false)))] .ret) .skip)) (s (x [m 139 11,q 140 (.nilc (t 139)),q 141 (.fld (t 140) 2),l 142 141,q 143 (.len (t 142)),q 144 (.mov (i 0))] (.block 3 (.loop (x [q 145 (.bin .lss (t 144) (t 143))] (s (.cond (t 145) .skip (.exit 3)) (s (.block 4 (x [m 146 144,q 147 (.idx (t 142) (t 144) 2),r 0 148 (.ldn (t 147) 2),e 22 (.new 46 [.int .i64 0,.int .i64 0]) [],m 21 146,w (.stn (t 22) (t 148) 2) []] (x [m 149 19,m 150 149,g 0 151 150 (.mov (t 11)),h 0 152 150 (.ldn (t 22) 2),.e (some 153) (some (150,true)) (.call 13 [t 151,t 152]) [],q 154 (.pick (t 150) (t 153) (.const (.bool false))),m 19 154] (x [m 155 20,k 1 156 (.mov (t 21)),k 2 157 (.idx (t 155) (t 156) 1),r 3 158 (.ld (t 157)),k 4 159 (.fld (t 22) 0),r 5 160 (.ld (t 159)),k 6 161 (.bin .neq (t 158) (t 160)),k 7 162 (.mov (t 161)),n 8 163 162 (.mov (t 10)),n 9 164 162 (.fld (t 22) 0),p 10 165 162 (.ld (t 164)),n 12 167 162 (.fld (t 22) 1),p 13 168 162 (.ld (t 167)),.e (some 166) (some (162,false)) (.call 14 [t 163,t 165]) [13,5,3],n 14 169 162 (.bin .neq (t 166) (t 168)),k 15 170 (.pick (t 162) (.const (.bool true)) (t 169))] (.cond (t 170) (x [q 6 (.mov (.const (.bool false)))] .ret) .skip))))) (.reg [q 171 (.bin .add (t 144) (i 1)),m 144 171]))))))) (x [m 173 8,m 174 7,q 175 (.bin .mul (i 256) (t 174)),e 176 (.call 15 [t 173,i 0,t 175]) [],m 172 176,q 177 (.ext (t 172) 0),q 178 (.ext (t 172) 1),m 23 177,m 24 178] (x [m 179 24,k 1 180 (.bin .neq (t 179) (i 0)),k 2 181 (.mov (t 180)),n 3 182 181 (.mov (t 23)),p 4 183 181 (.raw (o (.convert 32 9 (t 182)) 9)),n 5 184 181 (.mov (t 11)),n 6 185 181 (.nilc (t 184)),n 7 186 181 (.fld (t 185) 0),p 8 187 181 (.ld (t 186)),p 9 188 181 (.raw (o (.convert 32 9 (t 187)) 9)),p 10 189 181 (.raw (o (.binOp .neq 9 (t 183) (t 188) 9) 4)),k 11 190 (.pick (t 181) (.const (.bool true)) (t 189)),k 12 191 (.mov (t 190)),n 13 192 191 (.mov (t 10)),n 16 195 191 (.mov (t 19)),.e (some 193) (some (191,false)) (.call 16 [t 192]) [10,9,8,4],n 15 194 191 (.bin .eql (t 193) (i 0)),p 17 196 191 (.raw (o (.binOp .neq 4 (t 194) (t 195) 4) 4)),k 18 197 (.pick (t 191) (.const (.bool true)) (t 196)),k 19 198 (.mov (t 197)),n 20 199 198 (.mov (t 10)),.e (some 200) (some (198,false)) (.call 14 [t 199,i (-1)]) [17,10,9,8,4],n 22 201 198 (.bin .neq (t 200) (i 0)),k 23 202 (.pick (t 198) (.const (.bool true)) (t 201))] (.cond (t 202) (x [q 6 (.mov (.const (.bool false)))] .ret) .skip)))))))))))) (.reg [q 203 (.bin .add (t 44) (i 1)),m 44 203]))))))) (x [e 204 (.call 17 []) [],m 6 204] .ret))))))
theorem e_tumbrellaw08_LargePlays:EOk 3 205 m_tumbrellaw08_LargePlays Try.f3:=fun hn h =>
 enter Try.func3 (c:=(Try.f3.body.getD .skip)) rfl (by kernel_rfl) (Nat.le_of_ble_eq_true hn) h
def m_arena_New:MC:=(x [q 2 (.mov (.const (.pointer none)))] (x [m 3 0,q 4 (.mm true (t 3) (i 0)),q 5 (.mm false (t 4) (i 256)),q 6 (.bin .mul (i 256) (t 5)),e 7 (.raw (o (.makeSlice 32 (t 6) (t 6)) 32)) [],q 8 (.bld [.slice none 0 0] [(0,(1,(t 7)))]),e 9 (.box 55 (t 8)) [],m 2 9] .ret))
theorem e_arena_New:EOk 4 10 m_arena_New Try.f4:=fun hn h =>
 enter Try.func4 (c:=(Try.f4.body.getD .skip)) rfl (by kernel_rfl) (Nat.le_of_ble_eq_true hn) h
def m_link_New:MC:=(x [e 2 (.new 27 [.int .u64 0]) []] (x [m 3 0,q 4 (.bin .add (t 3) (.const (.int .u64 11400714819323198485))),e 5 (.call 18 [t 4]) [],q 6 (.bld [.int .u64 0] [(0,(1,(t 5)))]),w (.stn (t 2) (t 6) 1) []] .ret))
theorem e_link_New:EOk 5 7 m_link_New Try.f5:=fun hn h =>
 enter Try.func5 (c:=(Try.f5.body.getD .skip)) rfl (by kernel_rfl) (Nat.le_of_ble_eq_true hn) h
def m_large_New:MC:=(x [e 3 (.box 27 (t 1)) [],q 4 (.mov (.const (.pointer none)))] (s (x [m 5 0,q 6 (.nilp false (t 5))] (.cond (t 6) (x [q 4 (.mov (.const (.pointer none)))] .ret) .skip)) (x [m 7 0,r 0 8 (.ldn (t 3) 1),e 9 (.raw (o (.makeMap 57 none) 57)) [],q 10 (.bld [.pointer none,.int .u64 0,.map none] [(0,(1,(t 7))),(1,(1,(t 8))),(2,(1,(t 9)))]),e 11 (.box 59 (t 10)) [],m 4 11] .ret)))
theorem e_large_New:EOk 6 12 m_large_New Try.f6:=fun hn h =>
 enter Try.func6 (c:=(Try.f6.body.getD .skip)) rfl (by kernel_rfl) (Nat.le_of_ble_eq_true hn) h
def m_large_Set_Make:MC:=(x [q 6 (.mov (i 0))] (x [m 12 2,e 13 (.call 19 [t 12]) [],m 11 13,q 14 (.ext (t 11) 0),q 15 (.ext (t 11) 1),m 7 14,m 8 15] (s (.block 0 (x [m 17 0,q 18 (.nilp false (t 17)),m 16 18] (.cond (t 16) (x [q 6 (.mov (i 2))] .ret) (x [m 20 8,q 21 (.un .not (t 20)),m 22 21,n 0 23 22 (.mov (t 1)),n 0 24 22 (.bin .lss (t 23) (i 0)),q 25 (.pick (t 22) (.const (.bool true)) (t 24)),m 19 25] (.cond (t 19) (x [q 6 (.mov (i 1))] .ret) (x [m 27 1,m 28 0,q 29 (.nilc (t 28)),q 30 (.fld (t 29) 0),l 31 30,e 32 (.call 20 [t 31]) [],q 33 (.bin .quo (t 32) (i 256)),m 34 7,q 35 (.bin .sub (t 33) (t 34)),q 36 (.bin .gtr (t 27) (t 35)),m 26 36] (.cond (t 26) (x [q 6 (.mov (i 3))] .ret) (x [m 38 0,m 39 1,m 40 7,e 41 (.call 21 [t 38,t 39,t 40]) [],m 37 41] (.cond (t 37) (x [q 6 (.mov (i 7))] .ret) .skip))))))))) (x [m 42 0,q 43 (.nilc (t 42)),q 44 (.fld (t 43) 0),l 45 44,m 46 1,q 47 (.bin .mul (i 256) (t 46)),m 48 7,q 49 (.bin .mul (i 256) (t 48)),e 50 (.call 22 [t 45,t 47,t 49,.const (.int .u8 0)]) []] (x [m 51 0,q 52 (.nilc (t 51)),q 53 (.fld (t 52) 2),l 54 53,m 55 1,m 56 2,w (.raw (o (.mapUpdate 57 (t 54) (t 55) (t 56)) 0)) []] (x [m 58 0,m 59 1,m 60 2,e 61 (.call 23 [t 58,t 59,t 60]) [],m 57 61,q 62 (.ext (t 57) 0),q 63 (.ext (t 57) 1),m 9 62,m 10 63] (x [m 64 0,q 65 (.nilc (t 64)),q 66 (.fld (t 65) 0),l 67 66,m 68 9,m 69 10,e 70 (.call 24 [t 67,t 68,t 69]) [],m 6 70] .ret)))))))
theorem e_large_Set_Make:EOk 7 71 m_large_Set_Make Try.f7:=fun hn h =>
 enter Try.func7 (c:=(Try.f7.body.getD .skip)) rfl (by kernel_rfl) (Nat.le_of_ble_eq_true hn) h
def m_tumbrelref08_Set_Make:MC:=(x [q 6 (.mov (i 0))] (x [m 14 2,e 15 (.call 25 [t 14]) [],m 7 15] (s (x [m 16 7,q 17 (.bin .eql (t 16) (i 0)),m 18 17,n 0 19 18 (.mov (t 1)),n 0 20 18 (.bin .lss (t 19) (i 0)),q 21 (.pick (t 18) (.const (.bool true)) (t 20))] (.cond (t 21) (x [q 6 (.mov (i 1))] .ret) .skip)) (s (x [m 22 1,m 23 0,q 24 (.nilc (t 23)),q 25 (.fld (t 24) 0),l 26 25,q 27 (.len (t 26)),q 28 (.bin .quo (t 27) (i 256)),q 29 (.bin .gtr (t 22) (t 28)),m 30 29,n 0 31 30 (.mov (t 7)),n 0 32 30 (.mov (t 0)),n 0 33 30 (.nilc (t 32)),n 0 34 30 (.fld (t 33) 0),p 0 35 30 (.ld (t 34)),n 0 36 30 (.len (t 35)),n 0 37 30 (.bin .quo (t 36) (i 256)),n 0 38 30 (.mov (t 1)),n 0 39 30 (.bin .sub (t 37) (t 38)),n 0 40 30 (.bin .gtr (t 31) (t 39)),q 41 (.pick (t 30) (.const (.bool true)) (t 40))] (.cond (t 41) (x [q 6 (.mov (i 3))] .ret) .skip)) (x [q 8 (.mov (.const (.slice none 0 0)))] (s (x [m 42 0,q 43 (.nilc (t 42)),q 44 (.fld (t 43) 2),l 45 44,q 46 (.len (t 45)),q 47 (.mov (i 0))] (.block 0 (.loop (x [q 48 (.bin .lss (t 47) (t 46))] (s (.cond (t 48) .skip (.exit 0)) (s (.block 1 (x [q 49 (.idx (t 45) (t 47) 2),r 0 50 (.ldn (t 49) 2),e 10 (.new 46 [.int .i64 0,.int .i64 0]) [],w (.stn (t 10) (t 50) 2) []] (s (x [q 11 (.mov (i 0))] (.block 2 (.loop (s (x [m 51 11,m 52 7,q 53 (.bin .lss (t 51) (t 52))] (.cond (t 53) .skip (.exit 2))) (s (.block 3 (x [m 56 1,k 1 57 (.mov (t 11)),k 2 58 (.bin .add (t 56) (t 57)),k 3 59 (.fld (t 10) 0),r 4 60 (.ld (t 59)),k 5 61 (.bin .geq (t 58) (t 60)),k 6 62 (.mov (t 61)),g 7 63 62 (.mov (t 1)),g 8 64 62 (.mov (t 11)),g 9 65 62 (.bin .add (t 63) (t 64)),g 10 66 62 (.fld (t 10) 0),h 11 67 62 (.ld (t 66)),g 12 68 62 (.fld (t 10) 1),h 13 69 62 (.ld (t 68)),.e (some 70) (some (62,true)) (.call 25 [t 69]) [11,4],g 15 71 62 (.bin .add (t 67) (t 70)),g 16 72 62 (.bin .lss (t 65) (t 71)),k 17 73 (.pick (t 62) (t 72) (.const (.bool false)))] (.cond (t 73) (x [q 6 (.mov (i 7))] .ret) .skip))) (.reg [m 54 11,q 55 (.bin .add (t 54) (i 1)),m 11 55])))))) (x [q 74 (.fld (t 10) 0),l 75 74,m 76 1,q 77 (.bin .lss (t 75) (t 76))] (.cond (t 77) (.reg [m 78 8,r 0 79 (.ldn (t 10) 2),e 80 (.bs1 46 2 (t 79)) [],e 81 (.raw (o (.call ⟨(.builtin .append),[t 78,t 80].toArray,[33,33].toArray⟩) 33)) [],m 8 81]) .skip))))) (.reg [q 82 (.bin .add (t 47) (i 1)),m 47 82]))))))) (x [m 83 8,m 84 1,m 85 2,q 86 (.bld [.int .i64 0,.int .i64 0] [(0,(1,(t 84))),(1,(1,(t 85)))]),e 87 (.bs1 46 2 (t 86)) [],e 88 (.raw (o (.call ⟨(.builtin .append),[t 83,t 87].toArray,[33,33].toArray⟩) 33)) [],m 8 88] (s (x [m 89 0,q 90 (.nilc (t 89)),q 91 (.fld (t 90) 2),l 92 91,q 93 (.len (t 92)),q 94 (.mov (i 0))] (.block 4 (.loop (x [q 95 (.bin .lss (t 94) (t 93))] (s (.cond (t 95) .skip (.exit 4)) (s (.block 5 (x [q 96 (.idx (t 92) (t 94) 2),r 0 97 (.ldn (t 96) 2),e 13 (.new 46 [.int .i64 0,.int .i64 0]) [],w (.stn (t 13) (t 97) 2) []] (x [q 98 (.fld (t 13) 0),l 99 98,m 100 1,q 101 (.bin .gtr (t 99) (t 100))] (.cond (t 101) (.reg [m 102 8,r 0 103 (.ldn (t 13) 2),e 104 (.bs1 46 2 (t 103)) [],e 105 (.raw (o (.call ⟨(.builtin .append),[t 102,t 104].toArray,[33,33].toArray⟩) 33)) [],m 8 105]) .skip)))) (.reg [q 106 (.bin .add (t 94) (i 1)),m 94 106]))))))) (x [m 107 0,m 108 1,m 109 7,e 110 (.call 26 [t 107,t 108,t 109,.const (.int .u8 0)]) []] (x [m 111 0,k 1 112 (.nilc (t 111)),k 2 113 (.fld (t 112) 0),r 3 114 (.ld (t 113)),k 4 115 (.mov (t 1)),k 5 116 (.mov (t 7)),k 6 117 (.bin .add (t 115) (t 116)),k 7 118 (.bin .mul (i 256) (t 117)),k 8 119 (.bin .sub (t 118) (i 8)),k 9 120 (.slc (t 114) (some (t 119)) none 1),k 10 121 (.mov (t 0)),k 11 122 (.nilc (t 121)),k 12 123 (.fld (t 122) 1),r 13 124 (.ld (t 123)),k 14 125 (.mov (t 1)),k 15 126 (.bin .mul (i 256) (t 125)),k 16 127 (.cvi .u64 (t 126)),k 17 128 (.bin .xor (t 124) (t 127)),e 129 (.call 28 [t 128]) [13,3],e 130 (.call 27 [i 8,t 129]) [13,3],e 131 (.raw (o (.call ⟨(.builtin .copy),[t 120,t 130].toArray,[32,32].toArray⟩) 3)) [13,3]] (x [m 132 0,m 133 8,q 134 (.nilc (t 132)),q 135 (.fld (t 134) 2),w (.st (t 135) (t 133)) []] (x [q 6 (.mov (i 0))] .ret))))))))))))
theorem e_tumbrelref08_Set_Make:EOk 8 136 m_tumbrelref08_Set_Make Try.f8:=fun hn h =>
 enter Try.func8 (c:=(Try.f8.body.getD .skip)) rfl (by kernel_rfl) (Nat.le_of_ble_eq_true hn) h
def m_large_Set_Drop:MC:=(x [q 4 (.mov (.const (.bool false))),q 5 (.mov (i 0))] (s (x [m 9 0,q 10 (.nilp false (t 9))] (.cond (t 10) (x [q 4 (.mov (.const (.bool false))),q 5 (.mov (i 2))] .ret) .skip)) (x [m 12 0,q 13 (.nilc (t 12)),q 14 (.fld (t 13) 2),l 15 14,m 16 1,r 0 17 (.raw (o (.lookup 57 (t 15) (t 16) true) 60)),m 11 17,q 18 (.ext (t 11) 0),q 19 (.ext (t 11) 1),m 6 18,m 7 19] (s (x [m 20 7,q 21 (.un .not (t 20))] (.cond (t 21) (x [q 4 (.mov (.const (.bool false))),q 5 (.mov (i 6))] .ret) .skip)) (x [m 22 0,m 23 1,e 24 (.call 29 [t 22,t 23]) [],m 8 24] (x [m 25 0,q 26 (.nilc (t 25)),q 27 (.fld (t 26) 2),l 28 27,m 29 1,w (.raw (o (.call ⟨(.builtin .delete),[t 28,t 29].toArray,[57,3].toArray⟩) 0)) []] (x [m 30 8,k 1 31 (.mov (t 0)),k 2 32 (.nilc (t 31)),k 3 33 (.fld (t 32) 0),r 4 34 (.ld (t 33)),k 5 35 (.mov (t 1)),k 6 36 (.bin .mul (i 256) (t 35)),k 7 37 (.mov (t 6)),e 38 (.call 30 [t 37]) [4],k 9 39 (.bin .mul (i 256) (t 38)),e 40 (.call 22 [t 34,t 36,t 39,.const (.int .u8 221)]) [],k 11 4 (.mov (t 30)),k 12 5 (.mov (t 40))] .ret)))))))
theorem e_large_Set_Drop:EOk 9 41 m_large_Set_Drop Try.f9:=fun hn h =>
 enter Try.func9 (c:=(Try.f9.body.getD .skip)) rfl (by kernel_rfl) (Nat.le_of_ble_eq_true hn) h
def m_tumbrelref08_Set_Drop:MC:=(x [q 4 (.mov (.const (.bool false))),q 5 (.mov (i 0))] (x [m 9 0,m 10 1,e 11 (.call 31 [t 9,t 10]) [],m 6 11] (s (x [m 12 6,q 13 (.bin .lss (t 12) (i 0))] (.cond (t 13) (x [q 4 (.mov (.const (.bool false))),q 5 (.mov (i 6))] .ret) .skip)) (x [m 14 0,q 15 (.nilc (t 14)),q 16 (.fld (t 15) 2),l 17 16,m 18 6,q 19 (.idx (t 17) (t 18) 2),r 0 20 (.ldn (t 19) 2),e 7 (.new 46 [.int .i64 0,.int .i64 0]) [],w (.stn (t 7) (t 20) 2) []] (x [m 21 0,r 0 22 (.ldn (t 7) 2),e 23 (.call 13 [t 21,t 22]) [],m 8 23] (x [m 24 0,k 1 25 (.fld (t 7) 0),r 2 26 (.ld (t 25)),k 3 27 (.fld (t 7) 1),r 4 28 (.ld (t 27)),e 29 (.call 25 [t 28]) [2],e 30 (.call 26 [t 24,t 26,t 29,.const (.int .u8 221)]) []] (x [m 31 0,k 2 33 (.mov (t 0)),k 3 34 (.nilc (t 33)),k 4 35 (.fld (t 34) 2),r 5 36 (.ld (t 35)),k 6 37 (.mov (t 6)),k 7 38 (.slc (t 36) none (some (t 37)) 2),k 9 40 (.mov (t 0)),k 10 41 (.nilc (t 40)),k 11 42 (.fld (t 41) 2),r 12 43 (.ld (t 42)),k 13 44 (.mov (t 6)),k 14 45 (.bin .add (t 44) (i 1)),k 15 46 (.slc (t 43) (some (t 45)) none 2),e 32 (.bs0 46) [12,5],e 39 (.raw (o (.call ⟨(.builtin .append),[t 32,t 38].toArray,[33,33].toArray⟩) 33)) [12,5],e 47 (.raw (o (.call ⟨(.builtin .append),[t 39,t 46].toArray,[33,33].toArray⟩) 33)) [12,5],k 17 48 (.nilc (t 31)),k 18 49 (.fld (t 48) 2),w (.st (t 49) (t 47)) []] (x [m 50 8,m 4 50,q 5 (.mov (i 0))] .ret))))))))
theorem e_tumbrelref08_Set_Drop:EOk 10 51 m_tumbrelref08_Set_Drop Try.f10:=fun hn h =>
 enter Try.func10 (c:=(Try.f10.body.getD .skip)) rfl (by kernel_rfl) (Nat.le_of_ble_eq_true hn) h
def m_arena_Arena_Store:MC:=(x [q 6 (.mov (i 0))] (s (x [m 8 0,m 9 1,m 10 2,q 11 (.len (t 10)),e 12 (.call 32 [t 8,t 9,t 11]) [],m 7 12] (x [m 13 7,q 14 (.bin .neq (t 13) (i 0))] (.cond (t 14) (x [m 15 7,m 6 15] .ret) .skip))) (x [m 16 0,q 17 (.nilc (t 16)),q 18 (.fld (t 17) 0),l 19 18,m 20 1,q 21 (.slc (t 19) (some (t 20)) none 1),m 22 2,e 23 (.raw (o (.call ⟨(.builtin .copy),[t 21,t 22].toArray,[32,32].toArray⟩) 3)) []] (x [q 6 (.mov (i 0))] .ret))))
theorem e_arena_Arena_Store:EOk 11 24 m_arena_Arena_Store Try.f11:=fun hn h =>
 enter Try.func11 (c:=(Try.f11.body.getD .skip)) rfl (by kernel_rfl) (Nat.le_of_ble_eq_true hn) h
def m_large_Set_All:MC:=(x [q 2 (.mov (.const (.slice none 0 0)))] (s (x [m 3 0,q 4 (.nilp false (t 3))] (.cond (t 4) (x [q 2 (.mov (.const (.slice none 0 0)))] .ret) .skip)) (x [m 5 0,q 6 (.nilc (t 5)),q 7 (.fld (t 6) 2),l 8 7,e 9 (.call 34 [t 8]) [],e 10 (.call 33 [t 9]) [],m 2 10] .ret)))
theorem e_large_Set_All:EOk 12 11 m_large_Set_All Try.f12:=fun hn h =>
 enter Try.func12 (c:=(Try.f12.body.getD .skip)) rfl (by kernel_rfl) (Nat.le_of_ble_eq_true hn) h
def m_tumbrelref08_Set_Stands:MC:=(x [e 3 (.box 46 (t 1)) [],q 4 (.mov (.const (.bool false)))] (x [q 6 (.fld (t 3) 0),r 1 7 (.ld (t 6)),k 2 8 (.fld (t 3) 1),r 3 9 (.ld (t 8)),e 10 (.call 25 [t 9]) [1],k 5 11 (.bin .add (t 7) (t 10)),k 6 12 (.bin .mul (i 256) (t 11)),k 7 13 (.bin .sub (t 12) (i 8)),k 8 5 (.mov (t 13))] (x [m 14 0,k 1 15 (.nilc (t 14)),k 2 16 (.fld (t 15) 0),r 3 17 (.ld (t 16)),k 4 18 (.mov (t 5)),k 5 19 (.mov (t 5)),k 6 20 (.bin .add (t 19) (i 8)),k 7 21 (.slc (t 17) (some (t 18)) (some (t 20)) 1),k 9 23 (.mov (t 0)),k 10 24 (.nilc (t 23)),k 11 25 (.fld (t 24) 1),r 12 26 (.ld (t 25)),k 13 27 (.fld (t 3) 0),r 14 28 (.ld (t 27)),k 15 29 (.bin .mul (i 256) (t 28)),k 16 30 (.cvi .u64 (t 29)),k 17 31 (.bin .xor (t 26) (t 30)),e 22 (.call 35 [t 21]) [14,12,3],e 32 (.call 28 [t 31]) [14,12,3],k 19 33 (.bin .eql (t 22) (t 32)),k 20 4 (.mov (t 33))] .ret)))
theorem e_tumbrelref08_Set_Stands:EOk 13 34 m_tumbrelref08_Set_Stands Try.f13:=fun hn h =>
 enter Try.func13 (c:=(Try.f13.body.getD .skip)) rfl (by kernel_rfl) (Nat.le_of_ble_eq_true hn) h
def m_large_Set_Size:MC:=(x [q 4 (.mov (i 0))] (s (x [m 5 0,q 6 (.nilp false (t 5))] (.cond (t 6) (x [q 4 (.mov (i 0))] .ret) .skip)) (x [m 7 0,q 8 (.nilc (t 7)),q 9 (.fld (t 8) 2),l 10 9,m 11 1,r 0 12 (.raw (o (.lookup 57 (t 10) (t 11) false) 3)),m 4 12] .ret)))
theorem e_large_Set_Size:EOk 14 13 m_large_Set_Size Try.f14:=fun hn h =>
 enter Try.func14 (c:=(Try.f14.body.getD .skip)) rfl (by kernel_rfl) (Nat.le_of_ble_eq_true hn) h
def m_arena_Arena_Load:MC:=(x [q 6 (.mov (.const (.slice none 0 0))),q 7 (.mov (i 0))] (s (x [m 9 0,m 10 1,m 11 2,e 12 (.call 32 [t 9,t 10,t 11]) [],m 8 12] (x [m 13 8,q 14 (.bin .neq (t 13) (i 0))] (.cond (t 14) (x [m 15 8,q 6 (.mov (.const (.slice none 0 0))),m 7 15] .ret) .skip))) (x [m 16 0,q 17 (.nilc (t 16)),q 18 (.fld (t 17) 0),l 19 18,m 20 1,m 21 1,m 22 2,q 23 (.bin .add (t 21) (t 22)),q 24 (.slc (t 19) (some (t 20)) (some (t 23)) 1),e 25 (.call 36 [t 24]) [],m 6 25,q 7 (.mov (i 0))] .ret)))
theorem e_arena_Arena_Load:EOk 15 26 m_arena_Arena_Load Try.f15:=fun hn h =>
 enter Try.func15 (c:=(Try.f15.body.getD .skip)) rfl (by kernel_rfl) (Nat.le_of_ble_eq_true hn) h
def m_large_Set_Check:MC:=(x [q 2 (.mov (i 0))] (s (x [m 4 0,q 5 (.nilp false (t 4))] (.cond (t 5) (x [q 2 (.mov (i 2))] .ret) .skip)) (s (x [m 6 0,q 7 (.nilc (t 6)),q 8 (.fld (t 7) 2),l 9 8,e 10 (.raw (o (.range 57 (t 9)) 0)) []] (.block 0 (.loop (x [e 11 (.raw (o (.next (t 10) false) 0)) [],q 12 (.ext (t 11) 0)] (s (.cond (t 12) .skip (.exit 0)) (.block 1 (x [e 13 (.raw (o (.entry (t 10)) 0)) [],q 14 (.ext (t 13) 0),m 3 14] (x [m 15 0,m 16 3,e 17 (.call 29 [t 15,t 16]) [],q 18 (.un .not (t 17))] (.cond (t 18) (x [q 2 (.mov (i 4))] .ret) .skip))))))))) (x [q 2 (.mov (i 0))] .ret))))
theorem e_large_Set_Check:EOk 16 19 m_large_Set_Check Try.f16:=fun hn h =>
 enter Try.func16 (c:=(Try.f16.body.getD .skip)) rfl (by kernel_rfl) (Nat.le_of_ble_eq_true hn) h
def m_tumbrellaw08_awake:MC:=(x [q 0 (.mov (.const (.bool false)))] (x [e 2 (.call 4 [i 4]) [],e 3 (.call 5 [.const (.int .u64 0)]) [],e 4 (.call 6 [t 2,t 3]) [],m 1 4] (x [m 5 1,e 6 (.call 7 [t 5,i 1,i 300]) [],q 7 (.bin .eql (t 6) (i 0)),m 8 7,g 0 9 8 (.mov (t 1)),.e (some 10) (some (8,true)) (.call 14 [t 9,i 1]) [],g 0 11 8 (.bin .eql (t 10) (i 300)),q 12 (.pick (t 8) (t 11) (.const (.bool false))),m 13 12,g 0 14 13 (.mov (t 1)),.e (some 15) (some (13,true)) (.call 7 [t 14,i 2,i 200]) [],g 0 16 13 (.bin .eql (t 15) (i 7)),q 17 (.pick (t 13) (t 16) (.const (.bool false))),m 0 17] .ret)))
theorem e_tumbrellaw08_awake:EOk 17 18 m_tumbrellaw08_awake Try.f17:=fun hn h =>
 enter Try.func17 (c:=(Try.f17.body.getD .skip)) rfl (by kernel_rfl) (Nat.le_of_ble_eq_true hn) h
def m_link_mix:MC:=(x [q 2 (.mov (.const (.int .u64 0)))] (x [m 3 0,m 4 0,q 5 (.sh false (t 4) (.const (.int .u64 30))),q 6 (.bin .xor (t 3) (t 5)),q 7 (.bin .mul (t 6) (.const (.int .u64 13787848793156543929))),m 0 7] (x [m 8 0,m 9 0,q 10 (.sh false (t 9) (.const (.int .u64 27))),q 11 (.bin .xor (t 8) (t 10)),q 12 (.bin .mul (t 11) (.const (.int .u64 10723151780598845931))),m 0 12] (x [m 13 0,m 14 0,q 15 (.sh false (t 14) (.const (.int .u64 31))),q 16 (.bin .xor (t 13) (t 15)),m 2 16] .ret))))
theorem e_link_mix:EOk 18 17 m_link_mix Try.f18:=fun hn h =>
 enter Try.func18 (c:=(Try.f18.body.getD .skip)) rfl (by kernel_rfl) (Nat.le_of_ble_eq_true hn) h
def m_class_Pages:MC:=(x [q 2 (.mov (i 0)),q 3 (.mov (.const (.bool false)))] (s (x [m 4 0,e 5 (.call 37 [i 3]) [],q 6 (.bin .leq (t 4) (t 5)),m 7 6,n 0 8 7 (.mov (t 0)),n 0 9 7 (.bin .gtr (t 8) (i 4096)),q 10 (.pick (t 7) (.const (.bool true)) (t 9))] (.cond (t 10) (x [q 2 (.mov (i 0)),q 3 (.mov (.const (.bool false)))] .ret) .skip)) (x [m 11 0,q 12 (.bin .add (t 11) (i 8)),q 13 (.bin .add (t 12) (i 256)),q 14 (.bin .sub (t 13) (i 1)),q 15 (.bin .quo (t 14) (i 256)),m 2 15,q 3 (.mov (.const (.bool true)))] .ret)))
theorem e_class_Pages:EOk 19 16 m_class_Pages Try.f19:=fun hn h =>
 enter Try.func19 (c:=(Try.f19.body.getD .skip)) rfl (by kernel_rfl) (Nat.le_of_ble_eq_true hn) h
def m_arena_Arena_Len:MC:=(x [q 2 (.mov (i 0))] (s (x [m 3 0,q 4 (.nilp false (t 3))] (.cond (t 4) (x [q 2 (.mov (i 0))] .ret) .skip)) (x [m 5 0,q 6 (.nilc (t 5)),q 7 (.fld (t 6) 0),l 8 7,q 9 (.len (t 8)),m 2 9] .ret)))
theorem e_arena_Arena_Len:EOk 20 10 m_arena_Arena_Len Try.f20:=fun hn h =>
 enter Try.func20 (c:=(Try.f20.body.getD .skip)) rfl (by kernel_rfl) (Nat.le_of_ble_eq_true hn) h
def m_large_Set_meets:MC:=(x [q 6 (.mov (.const (.bool false)))] (s (x [m 9 0,q 10 (.nilc (t 9)),q 11 (.fld (t 10) 2),l 12 11,e 13 (.raw (o (.range 57 (t 12)) 0)) []] (.block 0 (.loop (x [e 14 (.raw (o (.next (t 13) false) 0)) [],q 15 (.ext (t 14) 0)] (s (.cond (t 15) .skip (.exit 0)) (.block 1 (x [e 16 (.raw (o (.entry (t 13)) 0)) [],q 17 (.ext (t 16) 0),q 18 (.ext (t 16) 1),m 7 17,m 8 18] (x [m 19 1,m 20 7,m 21 8,e 22 (.call 30 [t 21]) [],q 23 (.bin .add (t 20) (t 22)),q 24 (.bin .lss (t 19) (t 23)),m 25 24,g 0 26 25 (.mov (t 7)),g 0 27 25 (.mov (t 1)),g 0 28 25 (.mov (t 2)),g 0 29 25 (.bin .add (t 27) (t 28)),g 0 30 25 (.bin .lss (t 26) (t 29)),q 31 (.pick (t 25) (t 30) (.const (.bool false)))] (.cond (t 31) (x [q 6 (.mov (.const (.bool true)))] .ret) .skip))))))))) (x [q 6 (.mov (.const (.bool false)))] .ret)))
theorem e_large_Set_meets:EOk 21 32 m_large_Set_meets Try.f21:=fun hn h =>
 enter Try.func21 (c:=(Try.f21.body.getD .skip)) rfl (by kernel_rfl) (Nat.le_of_ble_eq_true hn) h
def m_arena_Arena_Fill:MC:=(x [q 8 (.mov (i 0))] (s (x [m 11 0,m 12 1,m 13 2,e 14 (.call 32 [t 11,t 12,t 13]) [],m 9 14] (x [m 15 9,q 16 (.bin .neq (t 15) (i 0))] (.cond (t 16) (x [m 17 9,m 8 17] .ret) .skip))) (s (x [m 18 1,m 10 18] (.block 0 (.loop (s (x [m 19 10,m 20 1,m 21 2,q 22 (.bin .add (t 20) (t 21)),q 23 (.bin .lss (t 19) (t 22))] (.cond (t 23) .skip (.exit 0))) (s (.block 1 (.reg [m 26 0,q 27 (.nilc (t 26)),q 28 (.fld (t 27) 0),l 29 28,m 30 10,m 31 3,q 32 (.idx (t 29) (t 30) 1),w (.st (t 32) (t 31)) []])) (.reg [m 24 10,q 25 (.bin .add (t 24) (i 1)),m 10 25])))))) (x [q 8 (.mov (i 0))] .ret))))
theorem e_arena_Arena_Fill:EOk 22 33 m_arena_Arena_Fill Try.f22:=fun hn h =>
 enter Try.func22 (c:=(Try.f22.body.getD .skip)) rfl (by kernel_rfl) (Nat.le_of_ble_eq_true hn) h
def m_large_Set_canary:MC:=(x [q 6 (.mov (i 0)),q 7 (.mov (.const (.int .u64 0)))] (x [m 8 1,k 1 9 (.mov (t 2)),k 6 14 (.mov (t 0)),k 7 15 (.nilc (t 14)),k 8 16 (.fld (t 15) 1),r 9 17 (.ldn (t 16) 1),k 10 18 (.mov (t 1)),k 11 19 (.bin .mul (i 256) (t 18)),e 10 (.call 30 [t 9]) [9],k 3 11 (.bin .add (t 8) (t 10)),k 4 12 (.bin .mul (i 256) (t 11)),k 5 13 (.bin .sub (t 12) (i 8)),e 20 (.call 38 [t 17,t 19]) [],k 13 6 (.mov (t 13)),k 14 7 (.mov (t 20))] .ret))
theorem e_large_Set_canary:EOk 23 21 m_large_Set_canary Try.f23:=fun hn h =>
 enter Try.func23 (c:=(Try.f23.body.getD .skip)) rfl (by kernel_rfl) (Nat.le_of_ble_eq_true hn) h
def m_arena_Arena_SetWord:MC:=(x [q 6 (.mov (i 0))] (s (x [m 8 0,m 9 1,e 10 (.call 39 [t 8,t 9]) [],m 7 10] (x [m 11 7,q 12 (.bin .neq (t 11) (i 0))] (.cond (t 12) (x [m 13 7,m 6 13] .ret) .skip))) (x [m 14 0,k 1 15 (.nilc (t 14)),k 2 16 (.fld (t 15) 0),r 3 17 (.ld (t 16)),k 4 18 (.mov (t 1)),k 5 19 (.slc (t 17) (some (t 18)) none 1),k 6 20 (.mov (t 2)),e 21 (.call 40 [i 8,t 20]) [3],e 22 (.raw (o (.call ⟨(.builtin .copy),[t 19,t 21].toArray,[32,32].toArray⟩) 3)) [3]] (x [q 6 (.mov (i 0))] .ret))))
theorem e_arena_Arena_SetWord:EOk 24 23 m_arena_Arena_SetWord Try.f24:=fun hn h =>
 enter Try.func24 (c:=(Try.f24.body.getD .skip)) rfl (by kernel_rfl) (Nat.le_of_ble_eq_true hn) h
def m_tumbrelref05_Pages:MC:=(x [q 2 (.mov (i 0))] (s (x [m 4 0,q 5 (.bin .lss (t 4) (i 121)),m 6 5,n 0 7 6 (.mov (t 0)),n 0 8 6 (.bin .gtr (t 7) (i 4096)),q 9 (.pick (t 6) (.const (.bool true)) (t 8))] (.cond (t 9) (x [q 2 (.mov (i 0))] .ret) .skip)) (x [q 3 (.mov (i 1))] (s (.block 0 (.loop (s (x [m 10 3,q 11 (.bin .mul (i 256) (t 10)),m 12 0,q 13 (.bin .add (t 12) (i 8)),q 14 (.bin .lss (t 11) (t 13))] (.cond (t 14) .skip (.exit 0))) (.block 1 (.reg [m 15 3,q 16 (.bin .add (t 15) (i 1)),m 3 16]))))) (x [m 17 3,m 2 17] .ret)))))
theorem e_tumbrelref05_Pages:EOk 25 18 m_tumbrelref05_Pages Try.f25:=fun hn h =>
 enter Try.func25 (c:=(Try.f25.body.getD .skip)) rfl (by kernel_rfl) (Nat.le_of_ble_eq_true hn) h
def m_tumbrelref08_Set_fill:MC:=(x [e 10 (.bs0 5) [],m 11 0,q 12 (.nilc (t 11)),q 13 (.fld (t 12) 0),l 14 13,e 15 (.raw (o (.call ⟨(.builtin .append),[t 10,t 14].toArray,[32,32].toArray⟩) 32)) [],m 8 15] (s (x [m 16 1,q 17 (.bin .mul (i 256) (t 16)),m 9 17] (.block 0 (.loop (s (x [m 18 9,m 19 1,m 20 2,q 21 (.bin .add (t 19) (t 20)),q 22 (.bin .mul (i 256) (t 21)),q 23 (.bin .lss (t 18) (t 22))] (.cond (t 23) .skip (.exit 0))) (s (.block 1 (.reg [m 26 8,m 27 9,m 28 3,q 29 (.idx (t 26) (t 27) 1),w (.st (t 29) (t 28)) []])) (.reg [m 24 9,q 25 (.bin .add (t 24) (i 1)),m 9 25])))))) (.reg [m 30 0,m 31 8,q 32 (.nilc (t 30)),q 33 (.fld (t 32) 0),w (.st (t 33) (t 31)) []])))
theorem e_tumbrelref08_Set_fill:EOk 26 34 m_tumbrelref08_Set_fill Try.f26:=fun hn h =>
 enter Try.func26 (c:=(Try.f26.body.getD .skip)) rfl (by kernel_rfl) (Nat.le_of_ble_eq_true hn) h
def m_tumbrelref01_Put:MC:=(x [q 4 (.mov (.const (.slice none 0 0)))] (x [q 5 (.mov (.const (.slice none 0 0)))] (s (x [q 6 (.mov (i 0))] (.block 0 (.loop (s (x [m 7 6,m 8 0,q 9 (.bin .lss (t 7) (t 8)),m 10 9,g 0 11 10 (.mov (t 0)),g 0 12 10 (.bin .leq (t 11) (i 8)),q 13 (.pick (t 10) (t 12) (.const (.bool false)))] (.cond (t 13) .skip (.exit 0))) (s (.block 1 (x [m 16 5,m 17 1,q 18 (.bin .rem (t 17) (.const (.int .u64 256))),q 19 (.cvi .u8 (t 18)),e 20 (.bs1 5 1 (t 19)) [],e 21 (.raw (o (.call ⟨(.builtin .append),[t 16,t 20].toArray,[32,32].toArray⟩) 32)) [],m 5 21] (.reg [m 22 1,q 23 (.bin .quo (t 22) (.const (.int .u64 256))),m 1 23]))) (.reg [m 14 6,q 15 (.bin .add (t 14) (i 1)),m 6 15])))))) (x [m 24 5,m 4 24] .ret))))
theorem e_tumbrelref01_Put:EOk 27 25 m_tumbrelref01_Put Try.f27:=fun hn h =>
 enter Try.func27 (c:=(Try.f27.body.getD .skip)) rfl (by kernel_rfl) (Nat.le_of_ble_eq_true hn) h
def m_tumbrelref06_Mix:MC:=(x [q 2 (.mov (.const (.int .u64 0)))] (x [m 3 0,m 4 0,q 5 (.bin .quo (t 4) (.const (.int .u64 1073741824))),q 6 (.bin .xor (t 3) (t 5)),m 0 6] (x [m 7 0,q 8 (.bin .mul (t 7) (.const (.int .u64 13787848793156543929))),m 0 8] (x [m 9 0,m 10 0,q 11 (.bin .quo (t 10) (.const (.int .u64 134217728))),q 12 (.bin .xor (t 9) (t 11)),m 0 12] (x [m 13 0,q 14 (.bin .mul (t 13) (.const (.int .u64 10723151780598845931))),m 0 14] (x [m 15 0,m 16 0,q 17 (.bin .quo (t 16) (.const (.int .u64 2147483648))),q 18 (.bin .xor (t 15) (t 17)),m 2 18] .ret))))))
theorem e_tumbrelref06_Mix:EOk 28 19 m_tumbrelref06_Mix Try.f28:=fun hn h =>
 enter Try.func28 (c:=(Try.f28.body.getD .skip)) rfl (by kernel_rfl) (Nat.le_of_ble_eq_true hn) h
def m_large_Set_stands:MC:=(x [q 4 (.mov (.const (.bool false)))] (x [m 10 0,m 11 1,m 12 0,q 13 (.nilc (t 12)),q 14 (.fld (t 13) 2),l 15 14,m 16 1,r 0 17 (.raw (o (.lookup 57 (t 15) (t 16) false) 3)),e 18 (.call 23 [t 10,t 11,t 17]) [],m 9 18,q 19 (.ext (t 9) 0),q 20 (.ext (t 9) 1),m 5 19,m 6 20] (x [m 22 0,q 23 (.nilc (t 22)),q 24 (.fld (t 23) 0),l 25 24,m 26 5,e 27 (.call 41 [t 25,t 26]) [],m 21 27,q 28 (.ext (t 21) 0),q 29 (.ext (t 21) 1),m 7 28,m 8 29] (x [m 30 8,q 31 (.bin .eql (t 30) (i 0)),m 32 31,g 0 33 32 (.mov (t 7)),g 0 34 32 (.mov (t 6)),g 0 35 32 (.bin .eql (t 33) (t 34)),q 36 (.pick (t 32) (t 35) (.const (.bool false))),m 4 36] .ret))))
theorem e_large_Set_stands:EOk 29 37 m_large_Set_stands Try.f29:=fun hn h =>
 enter Try.func29 (c:=(Try.f29.body.getD .skip)) rfl (by kernel_rfl) (Nat.le_of_ble_eq_true hn) h
def m_large_run:MC:=(x [q 2 (.mov (i 0))] (x [m 6 0,e 7 (.call 19 [t 6]) [],m 5 7,q 8 (.ext (t 5) 0),q 9 (.ext (t 5) 1),m 3 8,m 4 9] (x [m 10 3,m 2 10] .ret)))
theorem e_large_run:EOk 30 11 m_large_run Try.f30:=fun hn h =>
 enter Try.func30 (c:=(Try.f30.body.getD .skip)) rfl (by kernel_rfl) (Nat.le_of_ble_eq_true hn) h
def m_tumbrelref08_Set_At:MC:=(x [q 4 (.mov (i 0))] (s (x [m 7 0,q 8 (.nilc (t 7)),q 9 (.fld (t 8) 2),l 10 9,q 11 (.len (t 10)),q 12 (.mov (i 0))] (.block 0 (.loop (x [q 13 (.bin .lss (t 12) (t 11))] (s (.cond (t 13) .skip (.exit 0)) (s (.block 1 (x [m 14 12,q 15 (.idx (t 10) (t 12) 2),r 0 16 (.ldn (t 15) 2),e 6 (.new 46 [.int .i64 0,.int .i64 0]) [],m 5 14,w (.stn (t 6) (t 16) 2) []] (x [q 17 (.fld (t 6) 0),l 18 17,m 19 1,q 20 (.bin .eql (t 18) (t 19))] (.cond (t 20) (x [m 21 5,m 4 21] .ret) .skip)))) (.reg [q 22 (.bin .add (t 12) (i 1)),m 12 22]))))))) (x [q 4 (.mov (i (-1)))] .ret)))
theorem e_tumbrelref08_Set_At:EOk 31 23 m_tumbrelref08_Set_At Try.f31:=fun hn h =>
 enter Try.func31 (c:=(Try.f31.body.getD .skip)) rfl (by kernel_rfl) (Nat.le_of_ble_eq_true hn) h
def m_arena_Arena_in:MC:=(x [q 6 (.mov (i 0))] (s (.block 0 (x [m 8 0,q 9 (.nilp false (t 8)),m 7 9] (.cond (t 7) (x [q 6 (.mov (i 2))] .ret) (x [m 11 1,q 12 (.bin .lss (t 11) (i 0)),m 13 12,n 0 14 13 (.mov (t 2)),n 0 15 13 (.bin .lss (t 14) (i 0)),q 16 (.pick (t 13) (.const (.bool true)) (t 15)),m 17 16,n 0 18 17 (.mov (t 2)),n 0 19 17 (.mov (t 0)),n 0 20 17 (.nilc (t 19)),n 0 21 17 (.fld (t 20) 0),p 0 22 17 (.ld (t 21)),n 0 23 17 (.len (t 22)),n 0 24 17 (.bin .gtr (t 18) (t 23)),q 25 (.pick (t 17) (.const (.bool true)) (t 24)),m 26 25,n 0 27 26 (.mov (t 1)),n 0 28 26 (.mov (t 0)),n 0 29 26 (.nilc (t 28)),n 0 30 26 (.fld (t 29) 0),p 0 31 26 (.ld (t 30)),n 0 32 26 (.len (t 31)),n 0 33 26 (.mov (t 2)),n 0 34 26 (.bin .sub (t 32) (t 33)),n 0 35 26 (.bin .gtr (t 27) (t 34)),q 36 (.pick (t 26) (.const (.bool true)) (t 35)),m 10 36] (.cond (t 10) (x [q 6 (.mov (i 3))] .ret) .skip))))) (x [q 6 (.mov (i 0))] .ret)))
theorem e_arena_Arena_in:EOk 32 37 m_arena_Arena_in Try.f32:=fun hn h =>
 enter Try.func32 (c:=(Try.f32.body.getD .skip)) rfl (by kernel_rfl) (Nat.le_of_ble_eq_true hn) h
def m_slices_Sorted_int_:MC:=(x [q 2 (.mov (.const (.slice none 0 0)))] (x [m 4 0,e 5 (.call 42 [t 4]) [],m 3 5] (x [m 6 3,e 7 (.call 43 [t 6]) []] (x [m 8 3,m 2 8] .ret))))
theorem e_slices_Sorted_int_:EOk 33 9 m_slices_Sorted_int_ Try.f33:=fun hn h =>
 enter Try.func33 (c:=(Try.f33.body.getD .skip)) rfl (by kernel_rfl) (Nat.le_of_ble_eq_true hn) h
def m_maps_Keys_map_int_int_int_int_:MC:=(x [e 1 (.box 57 (t 0)) [],q 2 (.mov (.const .nilFunc))] (x [q 3 (.mkf (.func 44) [] [t 1]),m 2 3] .ret))
theorem e_maps_Keys_map_int_int_int_int_:EOk 34 4 m_maps_Keys_map_int_int_int_int_ Try.f34:=fun hn h =>
 enter Try.func34 (c:=(Try.f34.body.getD .skip)) rfl (by kernel_rfl) (Nat.le_of_ble_eq_true hn) h
def m_tumbrelref01_Get:MC:=(x [q 2 (.mov (.const (.int .u64 0)))] (s (x [m 5 0,q 6 (.len (t 5)),q 7 (.bin .gtr (t 6) (i 8))] (.cond (t 7) (.reg [m 8 0,q 9 (.slc (t 8) none (some (i 8)) 1),m 0 9]) .skip)) (x [q 3 (.mov (.const (.int .u64 0)))] (s (x [m 10 0,q 11 (.len (t 10)),q 12 (.bin .sub (t 11) (i 1)),m 4 12] (.block 0 (.loop (s (x [m 13 4,q 14 (.bin .geq (t 13) (i 0))] (.cond (t 14) .skip (.exit 0))) (s (.block 1 (.reg [m 17 3,q 18 (.bin .mul (t 17) (.const (.int .u64 256))),m 19 0,m 20 4,q 21 (.idx (t 19) (t 20) 1),l 22 21,q 23 (.cvi .u64 (t 22)),q 24 (.bin .add (t 18) (t 23)),m 3 24])) (.reg [m 15 4,q 16 (.bin .sub (t 15) (i 1)),m 4 16])))))) (x [m 25 3,m 2 25] .ret)))))
theorem e_tumbrelref01_Get:EOk 35 26 m_tumbrelref01_Get Try.f35:=fun hn h =>
 enter Try.func35 (c:=(Try.f35.body.getD .skip)) rfl (by kernel_rfl) (Nat.le_of_ble_eq_true hn) h
def m_bytes_Clone:MC:=(x [q 2 (.mov (.const (.slice none 0 0)))] (s (x [m 3 0,r 0 4 (.raw (o (.binOp .eql 32 (t 3) (.const (.slice none 0 0)) 32) 4))] (.cond (t 4) (x [q 2 (.mov (.const (.slice none 0 0)))] .ret) .skip)) (x [e 5 (.bs0 5) [],m 6 0,e 7 (.raw (o (.call ⟨(.builtin .append),[t 5,t 6].toArray,[32,32].toArray⟩) 32)) [],m 2 7] .ret)))
theorem e_bytes_Clone:EOk 36 8 m_bytes_Clone Try.f36:=fun hn h =>
 enter Try.func36 (c:=(Try.f36.body.getD .skip)) rfl (by kernel_rfl) (Nat.le_of_ble_eq_true hn) h
def m_class_Room:MC:=(x [q 2 (.mov (i 0))] (x [m 3 0,e 4 (.call 45 [t 3]) [],q 5 (.bin .sub (t 4) (i 8)),q 6 (.mm true (t 5) (i 0)),m 2 6] .ret))
theorem e_class_Room:EOk 37 7 m_class_Room Try.f37:=fun hn h =>
 enter Try.func37 (c:=(Try.f37.body.getD .skip)) rfl (by kernel_rfl) (Nat.le_of_ble_eq_true hn) h
def m_link_Code_Canary:MC:=(x [e 2 (.box 27 (t 0)) [],q 4 (.mov (.const (.int .u64 0)))] (x [q 5 (.fld (t 2) 0),l 6 5,m 7 1,q 8 (.cvi .u64 (t 7)),q 9 (.bin .xor (t 6) (t 8)),e 10 (.call 18 [t 9]) [],m 4 10] .ret))
theorem e_link_Code_Canary:EOk 38 11 m_link_Code_Canary Try.f38:=fun hn h =>
 enter Try.func38 (c:=(Try.f38.body.getD .skip)) rfl (by kernel_rfl) (Nat.le_of_ble_eq_true hn) h
def m_arena_Arena_word:MC:=(x [q 4 (.mov (i 0))] (s (x [m 6 0,m 7 1,e 8 (.call 32 [t 6,t 7,i 8]) [],m 5 8] (x [m 9 5,q 10 (.bin .neq (t 9) (i 0))] (.cond (t 10) (x [m 11 5,m 4 11] .ret) .skip))) (s (x [m 12 1,q 13 (.bin .rem (t 12) (i 8)),q 14 (.bin .neq (t 13) (i 0))] (.cond (t 14) (x [q 4 (.mov (i 1))] .ret) .skip)) (x [q 4 (.mov (i 0))] .ret))))
theorem e_arena_Arena_word:EOk 39 15 m_arena_Arena_word Try.f39:=fun hn h =>
 enter Try.func39 (c:=(Try.f39.body.getD .skip)) rfl (by kernel_rfl) (Nat.le_of_ble_eq_true hn) h
def m_num_Put:MC:=(x [q 4 (.mov (.const (.slice none 0 0)))] (s (x [m 7 0,q 8 (.bin .lss (t 7) (i 1)),m 9 8,n 0 10 9 (.mov (t 0)),n 0 11 9 (.bin .gtr (t 10) (i 8)),q 12 (.pick (t 9) (.const (.bool true)) (t 11))] (.cond (t 12) (x [q 4 (.mov (.const (.slice none 0 0)))] .ret) .skip)) (x [m 13 0,e 14 (.raw (o (.makeSlice 32 (t 13) (t 13)) 32)) [],m 5 14] (s (x [m 15 5,q 16 (.len (t 15)),q 17 (.mov (i 0))] (.block 0 (.loop (x [q 18 (.bin .lss (t 17) (t 16))] (s (.cond (t 18) .skip (.exit 0)) (s (.block 1 (x [m 19 17,m 6 19] (.reg [m 20 5,m 21 6,m 22 1,m 23 6,q 24 (.bin .mul (i 8) (t 23)),q 25 (.sh false (t 22) (t 24)),q 26 (.cvi .u8 (t 25)),q 27 (.idx (t 20) (t 21) 1),w (.st (t 27) (t 26)) []]))) (.reg [q 28 (.bin .add (t 17) (i 1)),m 17 28]))))))) (x [m 29 5,m 4 29] .ret)))))
theorem e_num_Put:EOk 40 30 m_num_Put Try.f40:=fun hn h =>
 enter Try.func40 (c:=(Try.f40.body.getD .skip)) rfl (by kernel_rfl) (Nat.le_of_ble_eq_true hn) h
def m_arena_Arena_Word:MC:=(x [q 4 (.mov (.const (.int .u64 0))),q 5 (.mov (i 0))] (s (x [m 7 0,m 8 1,e 9 (.call 39 [t 7,t 8]) [],m 6 9] (x [m 10 6,q 11 (.bin .neq (t 10) (i 0))] (.cond (t 11) (x [m 12 6,q 4 (.mov (.const (.int .u64 0))),m 5 12] .ret) .skip))) (x [m 13 0,q 14 (.nilc (t 13)),q 15 (.fld (t 14) 0),l 16 15,m 17 1,m 18 1,q 19 (.bin .add (t 18) (i 8)),q 20 (.slc (t 16) (some (t 17)) (some (t 19)) 1),e 21 (.call 46 [t 20]) [],m 4 21,q 5 (.mov (i 0))] .ret)))
theorem e_arena_Arena_Word:EOk 41 22 m_arena_Arena_Word Try.f41:=fun hn h =>
 enter Try.func41 (c:=(Try.f41.body.getD .skip)) rfl (by kernel_rfl) (Nat.le_of_ble_eq_true hn) h
def m_slices_Collect_int_:MC:=(x [q 2 (.mov (.const (.slice none 0 0)))] (x [m 3 0,e 4 (.call 47 [.const (.slice none 0 0),t 3]) [],m 2 4] .ret))
theorem e_slices_Collect_int_:EOk 42 5 m_slices_Collect_int_ Try.f42:=fun hn h =>
 enter Try.func42 (c:=(Try.f42.body.getD .skip)) rfl (by kernel_rfl) (Nat.le_of_ble_eq_true hn) h
def m_slices_Sort_int_int_:MC:=(x [m 3 0,q 4 (.len (t 3)),m 2 4] (.reg [m 5 0,m 6 2,m 7 2,q 8 (.cvi .u64 (t 7)),e 9 (.call 49 [t 8]) [],e 10 (.call 48 [t 5,i 0,t 6,t 9]) []]))
theorem e_slices_Sort_int_int_:EOk 43 11 m_slices_Sort_int_int_ Try.f43:=fun hn h =>
 enter Try.func43 (c:=(Try.f43.body.getD .skip)) rfl (by kernel_rfl) (Nat.le_of_ble_eq_true hn) h
def m_maps_Keys_map_int_int_int_int__c1:MC:=(x [l 4 1,e 5 (.raw (o (.range 57 (t 4)) 0)) []] (.block 0 (.loop (x [e 6 (.raw (o (.next (t 5) false) 0)) [],q 7 (.ext (t 6) 0)] (s (.cond (t 7) .skip (.exit 0)) (.block 1 (x [e 8 (.raw (o (.entry (t 5)) 0)) [],q 9 (.ext (t 8) 0),m 3 9] (x [m 10 0,m 11 3,e 12 (.callv (t 10) [t 11]) [],q 13 (.un .not (t 12))] (.cond (t 13) .ret .skip)))))))))
theorem e_maps_Keys_map_int_int_int_int__c1:EOk 44 14 m_maps_Keys_map_int_int_int_int__c1 Try.f44:=fun hn h =>
 enter Try.func44 (c:=(Try.f44.body.getD .skip)) rfl (by kernel_rfl) (Nat.le_of_ble_eq_true hn) h
def m_class_Size:MC:=(x [q 2 (.mov (i 0))] (s (x [m 3 0,e 4 (.call 50 [t 3]) [],q 5 (.un .not (t 4))] (.cond (t 5) (x [q 2 (.mov (i 0))] .ret) .skip)) (x [m 6 0,q 7 (.sh true (i 16) (t 6)),m 2 7] .ret)))
theorem e_class_Size:EOk 45 8 m_class_Size Try.f45:=fun hn h =>
 enter Try.func45 (c:=(Try.f45.body.getD .skip)) rfl (by kernel_rfl) (Nat.le_of_ble_eq_true hn) h
def m_num_Get:MC:=(x [q 2 (.mov (.const (.int .u64 0)))] (x [q 3 (.mov (.const (.int .u64 0)))] (s (x [m 5 0,q 6 (.len (t 5)),q 7 (.mm false (t 6) (i 8)),q 8 (.mov (i 0))] (.block 0 (.loop (x [q 9 (.bin .lss (t 8) (t 7))] (s (.cond (t 9) .skip (.exit 0)) (s (.block 1 (x [m 10 8,m 4 10] (.reg [m 11 3,m 12 0,m 13 4,q 14 (.idx (t 12) (t 13) 1),l 15 14,q 16 (.cvi .u64 (t 15)),m 17 4,q 18 (.bin .mul (i 8) (t 17)),q 19 (.sh true (t 16) (t 18)),q 20 (.bin .or (t 11) (t 19)),m 3 20]))) (.reg [q 21 (.bin .add (t 8) (i 1)),m 8 21]))))))) (x [m 22 3,m 2 22] .ret))))
theorem e_num_Get:EOk 46 23 m_num_Get Try.f46:=fun hn h =>
 enter Try.func46 (c:=(Try.f46.body.getD .skip)) rfl (by kernel_rfl) (Nat.le_of_ble_eq_true hn) h
def m_slices_pdqsortOrdered_int_:MC:=(x [q 8 (.mov (.const (.bool true)))] (x [q 9 (.mov (.const (.bool true)))] (.block 0 (.loop (.block 1 (x [m 19 2,m 20 1,q 21 (.bin .sub (t 19) (t 20)),m 10 21] (s (x [m 22 10,q 23 (.bin .leq (t 22) (i 12))] (.cond (t 23) (x [m 24 0,m 25 1,m 26 2,e 27 (.call 51 [t 24,t 25,t 26]) []] .ret) .skip)) (s (x [m 28 3,q 29 (.bin .eql (t 28) (i 0))] (.cond (t 29) (x [m 30 0,m 31 1,m 32 2,e 33 (.call 52 [t 30,t 31,t 32]) []] .ret) .skip)) (s (x [m 34 8,q 35 (.un .not (t 34))] (.cond (t 35) (x [m 36 0,m 37 1,m 38 2,e 39 (.call 53 [t 36,t 37,t 38]) []] (.reg [m 40 3,q 41 (.bin .sub (t 40) (i 1)),m 3 41])) .skip)) (x [m 43 0,m 44 1,m 45 2,e 46 (.call 54 [t 43,t 44,t 45]) [],m 42 46,q 47 (.ext (t 42) 0),q 48 (.ext (t 42) 1),m 11 47,m 12 48] (s (x [m 49 12,q 50 (.bin .eql (t 49) (i 2))] (.cond (t 50) (x [m 51 0,m 52 1,m 53 2,e 54 (.call 55 [t 51,t 52,t 53]) []] (x [m 55 2,q 56 (.bin .sub (t 55) (i 1)),m 57 11,m 58 1,q 59 (.bin .sub (t 57) (t 58)),q 60 (.bin .sub (t 56) (t 59)),m 11 60] (.reg [q 12 (.mov (i 1))]))) .skip)) (s (x [m 61 8,m 62 61,g 0 63 62 (.mov (t 9)),q 64 (.pick (t 62) (t 63) (.const (.bool false))),m 65 64,g 0 66 65 (.mov (t 12)),g 0 67 65 (.bin .eql (t 66) (i 1)),q 68 (.pick (t 65) (t 67) (.const (.bool false)))] (.cond (t 68) (x [m 69 0,m 70 1,m 71 2,e 72 (.call 56 [t 69,t 70,t 71]) []] (.cond (t 72) .ret .skip)) .skip)) (s (x [m 73 1,k 1 74 (.bin .gtr (t 73) (i 0)),k 2 75 (.mov (t 74)),g 3 76 75 (.mov (t 0)),g 4 77 75 (.mov (t 1)),g 5 78 75 (.bin .sub (t 77) (i 1)),g 6 79 75 (.idx (t 76) (t 78) 1),h 7 80 75 (.ld (t 79)),g 8 81 75 (.mov (t 0)),g 9 82 75 (.mov (t 11)),g 10 83 75 (.idx (t 81) (t 82) 1),h 11 84 75 (.ld (t 83)),.e (some 85) (some (75,true)) (.call 57 [t 80,t 84]) [],g 13 86 75 (.un .not (t 85)),k 14 87 (.pick (t 75) (t 86) (.const (.bool false)))] (.cond (t 87) (x [m 88 0,m 89 1,m 90 2,m 91 11,e 92 (.call 58 [t 88,t 89,t 90,t 91]) [],m 13 92] (x [m 93 13,m 1 93] (.exit 1))) .skip)) (x [m 95 0,m 96 1,m 97 2,m 98 11,e 99 (.call 59 [t 95,t 96,t 97,t 98]) [],m 94 99,q 100 (.ext (t 94) 0),q 101 (.ext (t 94) 1),m 14 100,m 15 101] (x [m 102 15,m 9 102] (x [m 103 14,m 104 1,q 105 (.bin .sub (t 103) (t 104)),m 106 2,m 107 14,q 108 (.bin .sub (t 106) (t 107)),m 16 105,m 17 108] (x [m 109 10,q 110 (.bin .quo (t 109) (i 8)),m 18 110] (x [m 111 16,m 112 17,q 113 (.bin .lss (t 111) (t 112))] (.cond (t 113) (x [m 114 16,m 115 18,q 116 (.bin .geq (t 114) (t 115)),m 8 116] (x [m 117 0,m 118 1,m 119 14,m 120 3,e 121 (.call 48 [t 117,t 118,t 119,t 120]) []] (.reg [m 122 14,q 123 (.bin .add (t 122) (i 1)),m 1 123]))) (x [m 124 17,m 125 18,q 126 (.bin .geq (t 124) (t 125)),m 8 126] (x [m 127 0,m 128 14,q 129 (.bin .add (t 128) (i 1)),m 130 2,m 131 3,e 132 (.call 48 [t 127,t 129,t 130,t 131]) []] (.reg [m 133 14,m 2 133]))))))))))))))))))))))
theorem e_slices_pdqsortOrdered_int_:EOk 48 134 m_slices_pdqsortOrdered_int_ Try.f48:=fun hn h =>
 enter Try.func48 (c:=(Try.f48.body.getD .skip)) rfl (by kernel_rfl) (Nat.le_of_ble_eq_true hn) h
def m_math_bits_Len:MC:=(x [q 2 (.mov (i 0))] (s (.cond (.const (.bool false)) (x [m 3 0,q 4 (.cvi .u32 (t 3)),e 5 (.call 60 [t 4]) [],m 2 5] .ret) .skip) (x [m 6 0,e 7 (.call 61 [t 6]) [],m 2 7] .ret)))
theorem e_math_bits_Len:EOk 49 8 m_math_bits_Len Try.f49:=fun hn h =>
 enter Try.func49 (c:=(Try.f49.body.getD .skip)) rfl (by kernel_rfl) (Nat.le_of_ble_eq_true hn) h
def m_class_may:MC:=(x [q 2 (.mov (.const (.bool false)))] (x [m 3 0,q 4 (.bin .geq (t 3) (i 0)),m 5 4,g 0 6 5 (.mov (t 0)),g 0 7 5 (.bin .lss (t 6) (i 4)),q 8 (.pick (t 5) (t 7) (.const (.bool false))),m 2 8] .ret))
theorem e_class_may:EOk 50 9 m_class_may Try.f50:=fun hn h =>
 enter Try.func50 (c:=(Try.f50.body.getD .skip)) rfl (by kernel_rfl) (Nat.le_of_ble_eq_true hn) h
def m_slices_insertionSortOrdered_int_:MC:=(x [m 8 1,q 9 (.bin .add (t 8) (i 1)),m 6 9] (.block 0 (.loop (s (x [m 10 6,m 11 2,q 12 (.bin .lss (t 10) (t 11))] (.cond (t 12) .skip (.exit 0))) (s (.block 1 (x [m 15 6,m 7 15] (.block 2 (.loop (s (x [m 16 7,k 1 17 (.mov (t 1)),k 2 18 (.bin .gtr (t 16) (t 17)),k 3 19 (.mov (t 18)),g 4 20 19 (.mov (t 0)),g 5 21 19 (.mov (t 7)),g 6 22 19 (.idx (t 20) (t 21) 1),h 7 23 19 (.ld (t 22)),g 8 24 19 (.mov (t 0)),g 9 25 19 (.mov (t 7)),g 10 26 19 (.bin .sub (t 25) (i 1)),g 11 27 19 (.idx (t 24) (t 26) 1),h 12 28 19 (.ld (t 27)),.e (some 29) (some (19,true)) (.call 57 [t 23,t 28]) [],k 14 30 (.pick (t 19) (t 29) (.const (.bool false)))] (.cond (t 30) .skip (.exit 2))) (s (.block 3 (.reg [m 33 0,k 1 34 (.mov (t 7)),k 2 35 (.mov (t 0)),k 3 36 (.mov (t 7)),k 4 37 (.bin .sub (t 36) (i 1)),k 5 38 (.mov (t 0)),k 6 39 (.mov (t 7)),k 7 40 (.bin .sub (t 39) (i 1)),k 8 41 (.idx (t 38) (t 40) 1),r 9 42 (.ld (t 41)),k 10 43 (.mov (t 0)),k 11 44 (.mov (t 7)),k 12 45 (.idx (t 43) (t 44) 1),r 13 46 (.ld (t 45)),k 14 47 (.idx (t 33) (t 34) 1),w (.st (t 47) (t 42)) [],k 16 48 (.idx (t 35) (t 37) 1),w (.st (t 48) (t 46)) []])) (.reg [m 31 7,q 32 (.bin .sub (t 31) (i 1)),m 7 32]))))))) (.reg [m 13 6,q 14 (.bin .add (t 13) (i 1)),m 6 14]))))))
theorem e_slices_insertionSortOrdered_int_:EOk 51 49 m_slices_insertionSortOrdered_int_ Try.f51:=fun hn h =>
 enter Try.func51 (c:=(Try.f51.body.getD .skip)) rfl (by kernel_rfl) (Nat.le_of_ble_eq_true hn) h
def m_slices_heapSortOrdered_int_:MC:=(x [m 11 1,m 6 11] (x [q 7 (.mov (i 0))] (x [m 12 2,m 13 1,q 14 (.bin .sub (t 12) (t 13)),m 8 14] (s (x [m 15 8,q 16 (.bin .sub (t 15) (i 1)),q 17 (.bin .quo (t 16) (i 2)),m 9 17] (.block 0 (.loop (s (x [m 18 9,q 19 (.bin .geq (t 18) (i 0))] (.cond (t 19) .skip (.exit 0))) (s (.block 1 (.reg [m 22 0,m 23 9,m 24 8,m 25 6,e 26 (.call 62 [t 22,t 23,t 24,t 25]) []])) (.reg [m 20 9,q 21 (.bin .sub (t 20) (i 1)),m 9 21])))))) (x [m 27 8,q 28 (.bin .sub (t 27) (i 1)),m 10 28] (.block 2 (.loop (s (x [m 29 10,q 30 (.bin .geq (t 29) (i 0))] (.cond (t 30) .skip (.exit 2))) (s (.block 3 (x [m 33 0,k 1 34 (.mov (t 6)),k 2 35 (.mov (t 0)),k 3 36 (.mov (t 6)),k 4 37 (.mov (t 10)),k 5 38 (.bin .add (t 36) (t 37)),k 6 39 (.mov (t 0)),k 7 40 (.mov (t 6)),k 8 41 (.mov (t 10)),k 9 42 (.bin .add (t 40) (t 41)),k 10 43 (.idx (t 39) (t 42) 1),r 11 44 (.ld (t 43)),k 12 45 (.mov (t 0)),k 13 46 (.mov (t 6)),k 14 47 (.idx (t 45) (t 46) 1),r 15 48 (.ld (t 47)),k 16 49 (.idx (t 33) (t 34) 1),w (.st (t 49) (t 44)) [],k 18 50 (.idx (t 35) (t 38) 1),w (.st (t 50) (t 48)) []] (.reg [m 51 0,m 52 7,m 53 10,m 54 6,e 55 (.call 62 [t 51,t 52,t 53,t 54]) []]))) (.reg [m 31 10,q 32 (.bin .sub (t 31) (i 1)),m 10 32]))))))))))
theorem e_slices_heapSortOrdered_int_:EOk 52 56 m_slices_heapSortOrdered_int_ Try.f52:=fun hn h =>
 enter Try.func52 (c:=(Try.f52.body.getD .skip)) rfl (by kernel_rfl) (Nat.le_of_ble_eq_true hn) h
def m_slices_breakPatternsOrdered_int_:MC:=(x [m 11 2,m 12 1,q 13 (.bin .sub (t 11) (t 12)),m 6 13] (x [m 14 6,q 15 (.bin .geq (t 14) (i 8))] (.cond (t 15) (x [m 16 6,q 17 (.cvi .u64 (t 16)),e 7 (.new 96 [.int .u64 0]) [],w (.st (t 7) (t 17)) []] (x [m 18 6,e 19 (.call 63 [t 18]) [],m 8 19] (x [m 20 1,m 21 6,q 22 (.bin .quo (t 21) (i 4)),q 23 (.bin .mul (t 22) (i 2)),q 24 (.bin .add (t 20) (t 23)),q 25 (.bin .sub (t 24) (i 1)),m 9 25] (.block 0 (.loop (s (x [m 26 9,m 27 1,m 28 6,q 29 (.bin .quo (t 28) (i 4)),q 30 (.bin .mul (t 29) (i 2)),q 31 (.bin .add (t 27) (t 30)),q 32 (.bin .add (t 31) (i 1)),q 33 (.bin .leq (t 26) (t 32))] (.cond (t 33) .skip (.exit 0))) (s (.block 1 (x [e 36 (.call 64 [t 7]) [],m 37 8,q 38 (.bin .sub (t 37) (.const (.int .u64 1))),q 39 (.bin .and (t 36) (t 38)),q 40 (.cvi .i64 (t 39)),m 10 40] (s (x [m 41 10,m 42 6,q 43 (.bin .geq (t 41) (t 42))] (.cond (t 43) (.reg [m 44 10,m 45 6,q 46 (.bin .sub (t 44) (t 45)),m 10 46]) .skip)) (.reg [m 47 0,k 1 48 (.mov (t 9)),k 2 49 (.mov (t 0)),k 3 50 (.mov (t 1)),k 4 51 (.mov (t 10)),k 5 52 (.bin .add (t 50) (t 51)),k 6 53 (.mov (t 0)),k 7 54 (.mov (t 1)),k 8 55 (.mov (t 10)),k 9 56 (.bin .add (t 54) (t 55)),k 10 57 (.idx (t 53) (t 56) 1),r 11 58 (.ld (t 57)),k 12 59 (.mov (t 0)),k 13 60 (.mov (t 9)),k 14 61 (.idx (t 59) (t 60) 1),r 15 62 (.ld (t 61)),k 16 63 (.idx (t 47) (t 48) 1),w (.st (t 63) (t 58)) [],k 18 64 (.idx (t 49) (t 52) 1),w (.st (t 64) (t 62)) []])))) (.reg [m 34 9,q 35 (.bin .add (t 34) (i 1)),m 9 35])))))))) .skip)))
theorem e_slices_breakPatternsOrdered_int_:EOk 53 65 m_slices_breakPatternsOrdered_int_ Try.f53:=fun hn h =>
 enter Try.func53 (c:=(Try.f53.body.getD .skip)) rfl (by kernel_rfl) (Nat.le_of_ble_eq_true hn) h
def m_slices_choosePivotOrdered_int_:MC:=(x [q 6 (.mov (i 0)),q 7 (.mov (i 0))] (x [m 13 2,m 14 1,q 15 (.bin .sub (t 13) (t 14)),m 8 15] (x [e 9 (.new 3 [.int .i64 0]) []] (x [m 16 1,m 17 8,q 18 (.bin .quo (t 17) (i 4)),q 19 (.bin .mul (t 18) (i 1)),q 20 (.bin .add (t 16) (t 19)),m 10 20] (x [m 21 1,m 22 8,q 23 (.bin .quo (t 22) (i 4)),q 24 (.bin .mul (t 23) (i 2)),q 25 (.bin .add (t 21) (t 24)),m 11 25] (x [m 26 1,m 27 8,q 28 (.bin .quo (t 27) (i 4)),q 29 (.bin .mul (t 28) (i 3)),q 30 (.bin .add (t 26) (t 29)),m 12 30] (s (x [m 31 8,q 32 (.bin .geq (t 31) (i 8))] (.cond (t 32) (s (x [m 33 8,q 34 (.bin .geq (t 33) (i 50))] (.cond (t 34) (x [m 35 0,m 36 10,e 37 (.call 65 [t 35,t 36,t 9]) [],m 10 37] (x [m 38 0,m 39 11,e 40 (.call 65 [t 38,t 39,t 9]) [],m 11 40] (.reg [m 41 0,m 42 12,e 43 (.call 65 [t 41,t 42,t 9]) [],m 12 43]))) .skip)) (.reg [m 44 0,m 45 10,m 46 11,m 47 12,e 48 (.call 66 [t 44,t 45,t 46,t 47,t 9]) [],m 11 48])) .skip)) (x [l 49 9] (.block 0 (x [q 52 (.bin .eql (t 49) (i 0)),m 51 52] (.cond (t 51) (x [m 53 11,m 6 53,q 7 (.mov (i 1))] .ret) (x [q 55 (.bin .eql (t 49) (i 12)),m 54 55] (.cond (t 54) (x [m 56 11,m 6 56,q 7 (.mov (i 2))] .ret) (x [m 50 11,m 6 50,q 7 (.mov (i 0))] .ret))))))))))))))
theorem e_slices_choosePivotOrdered_int_:EOk 54 57 m_slices_choosePivotOrdered_int_ Try.f54:=fun hn h =>
 enter Try.func54 (c:=(Try.f54.body.getD .skip)) rfl (by kernel_rfl) (Nat.le_of_ble_eq_true hn) h
def m_slices_reverseRangeOrdered_int_:MC:=(x [m 8 1,m 6 8] (x [m 9 2,q 10 (.bin .sub (t 9) (i 1)),m 7 10] (.block 0 (.loop (s (x [m 11 6,m 12 7,q 13 (.bin .lss (t 11) (t 12))] (.cond (t 13) .skip (.exit 0))) (.block 1 (x [m 14 0,k 1 15 (.mov (t 6)),k 2 16 (.mov (t 0)),k 3 17 (.mov (t 7)),k 4 18 (.mov (t 0)),k 5 19 (.mov (t 7)),k 6 20 (.idx (t 18) (t 19) 1),r 7 21 (.ld (t 20)),k 8 22 (.mov (t 0)),k 9 23 (.mov (t 6)),k 10 24 (.idx (t 22) (t 23) 1),r 11 25 (.ld (t 24)),k 12 26 (.idx (t 14) (t 15) 1),w (.st (t 26) (t 21)) [],k 14 27 (.idx (t 16) (t 17) 1),w (.st (t 27) (t 25)) []] (x [m 28 6,q 29 (.bin .add (t 28) (i 1)),m 6 29] (.reg [m 30 7,q 31 (.bin .sub (t 30) (i 1)),m 7 31])))))))))
theorem e_slices_reverseRangeOrdered_int_:EOk 55 32 m_slices_reverseRangeOrdered_int_ Try.f55:=fun hn h =>
 enter Try.func55 (c:=(Try.f55.body.getD .skip)) rfl (by kernel_rfl) (Nat.le_of_ble_eq_true hn) h
def m_slices_partialInsertionSortOrdered_int_:MC:=(x [q 6 (.mov (.const (.bool false)))] (x [m 11 1,q 12 (.bin .add (t 11) (i 1)),m 7 12] (s (x [q 8 (.mov (i 0))] (.block 0 (.loop (s (x [m 13 8,q 14 (.bin .lss (t 13) (i 5))] (.cond (t 14) .skip (.exit 0))) (s (.block 1 (s (.block 2 (.loop (s (x [m 17 7,k 1 18 (.mov (t 2)),k 2 19 (.bin .lss (t 17) (t 18)),k 3 20 (.mov (t 19)),g 4 21 20 (.mov (t 0)),g 5 22 20 (.mov (t 7)),g 6 23 20 (.idx (t 21) (t 22) 1),h 7 24 20 (.ld (t 23)),g 8 25 20 (.mov (t 0)),g 9 26 20 (.mov (t 7)),g 10 27 20 (.bin .sub (t 26) (i 1)),g 11 28 20 (.idx (t 25) (t 27) 1),h 12 29 20 (.ld (t 28)),.e (some 30) (some (20,true)) (.call 57 [t 24,t 29]) [],g 14 31 20 (.un .not (t 30)),k 15 32 (.pick (t 20) (t 31) (.const (.bool false)))] (.cond (t 32) .skip (.exit 2))) (.block 3 (.reg [m 33 7,q 34 (.bin .add (t 33) (i 1)),m 7 34]))))) (s (x [m 35 7,m 36 2,q 37 (.bin .eql (t 35) (t 36))] (.cond (t 37) (x [q 6 (.mov (.const (.bool true)))] .ret) .skip)) (s (x [m 38 2,m 39 1,q 40 (.bin .sub (t 38) (t 39)),q 41 (.bin .lss (t 40) (i 50))] (.cond (t 41) (x [q 6 (.mov (.const (.bool false)))] .ret) .skip)) (x [m 42 0,k 1 43 (.mov (t 7)),k 2 44 (.mov (t 0)),k 3 45 (.mov (t 7)),k 4 46 (.bin .sub (t 45) (i 1)),k 5 47 (.mov (t 0)),k 6 48 (.mov (t 7)),k 7 49 (.bin .sub (t 48) (i 1)),k 8 50 (.idx (t 47) (t 49) 1),r 9 51 (.ld (t 50)),k 10 52 (.mov (t 0)),k 11 53 (.mov (t 7)),k 12 54 (.idx (t 52) (t 53) 1),r 13 55 (.ld (t 54)),k 14 56 (.idx (t 42) (t 43) 1),w (.st (t 56) (t 51)) [],k 16 57 (.idx (t 44) (t 46) 1),w (.st (t 57) (t 55)) []] (s (x [m 58 7,m 59 1,q 60 (.bin .sub (t 58) (t 59)),q 61 (.bin .geq (t 60) (i 2))] (.cond (t 61) (x [m 62 7,q 63 (.bin .sub (t 62) (i 1)),m 9 63] (.block 4 (.loop (s (x [m 64 9,q 65 (.bin .geq (t 64) (i 1))] (.cond (t 65) .skip (.exit 4))) (s (.block 5 (s (x [m 68 0,k 1 69 (.mov (t 9)),k 2 70 (.idx (t 68) (t 69) 1),r 3 71 (.ld (t 70)),k 4 72 (.mov (t 0)),k 5 73 (.mov (t 9)),k 6 74 (.bin .sub (t 73) (i 1)),k 7 75 (.idx (t 72) (t 74) 1),r 8 76 (.ld (t 75)),e 77 (.call 57 [t 71,t 76]) [],k 10 78 (.un .not (t 77))] (.cond (t 78) (.exit 4) .skip)) (.reg [m 79 0,k 1 80 (.mov (t 9)),k 2 81 (.mov (t 0)),k 3 82 (.mov (t 9)),k 4 83 (.bin .sub (t 82) (i 1)),k 5 84 (.mov (t 0)),k 6 85 (.mov (t 9)),k 7 86 (.bin .sub (t 85) (i 1)),k 8 87 (.idx (t 84) (t 86) 1),r 9 88 (.ld (t 87)),k 10 89 (.mov (t 0)),k 11 90 (.mov (t 9)),k 12 91 (.idx (t 89) (t 90) 1),r 13 92 (.ld (t 91)),k 14 93 (.idx (t 79) (t 80) 1),w (.st (t 93) (t 88)) [],k 16 94 (.idx (t 81) (t 83) 1),w (.st (t 94) (t 92)) []]))) (.reg [m 66 9,q 67 (.bin .sub (t 66) (i 1)),m 9 67])))))) .skip)) (x [m 95 2,m 96 7,q 97 (.bin .sub (t 95) (t 96)),q 98 (.bin .geq (t 97) (i 2))] (.cond (t 98) (x [m 99 7,q 100 (.bin .add (t 99) (i 1)),m 10 100] (.block 6 (.loop (s (x [m 101 10,m 102 2,q 103 (.bin .lss (t 101) (t 102))] (.cond (t 103) .skip (.exit 6))) (s (.block 7 (s (x [m 106 0,k 1 107 (.mov (t 10)),k 2 108 (.idx (t 106) (t 107) 1),r 3 109 (.ld (t 108)),k 4 110 (.mov (t 0)),k 5 111 (.mov (t 10)),k 6 112 (.bin .sub (t 111) (i 1)),k 7 113 (.idx (t 110) (t 112) 1),r 8 114 (.ld (t 113)),e 115 (.call 57 [t 109,t 114]) [],k 10 116 (.un .not (t 115))] (.cond (t 116) (.exit 6) .skip)) (.reg [m 117 0,k 1 118 (.mov (t 10)),k 2 119 (.mov (t 0)),k 3 120 (.mov (t 10)),k 4 121 (.bin .sub (t 120) (i 1)),k 5 122 (.mov (t 0)),k 6 123 (.mov (t 10)),k 7 124 (.bin .sub (t 123) (i 1)),k 8 125 (.idx (t 122) (t 124) 1),r 9 126 (.ld (t 125)),k 10 127 (.mov (t 0)),k 11 128 (.mov (t 10)),k 12 129 (.idx (t 127) (t 128) 1),r 13 130 (.ld (t 129)),k 14 131 (.idx (t 117) (t 118) 1),w (.st (t 131) (t 126)) [],k 16 132 (.idx (t 119) (t 121) 1),w (.st (t 132) (t 130)) []]))) (.reg [m 104 10,q 105 (.bin .add (t 104) (i 1)),m 10 105])))))) .skip)))))))) (.reg [m 15 8,q 16 (.bin .add (t 15) (i 1)),m 8 16])))))) (x [q 6 (.mov (.const (.bool false)))] .ret))))
theorem e_slices_partialInsertionSortOrdered_int_:EOk 56 133 m_slices_partialInsertionSortOrdered_int_ Try.f56:=fun hn h =>
 enter Try.func56 (c:=(Try.f56.body.getD .skip)) rfl (by kernel_rfl) (Nat.le_of_ble_eq_true hn) h
def m_cmp_Less_int_:MC:=(x [q 4 (.mov (.const (.bool false)))] (x [m 5 0,e 6 (.call 67 [t 5]) [],m 7 6,g 0 8 7 (.mov (t 1)),.e (some 9) (some (7,true)) (.call 67 [t 8]) [],g 0 10 7 (.un .not (t 9)),q 11 (.pick (t 7) (t 10) (.const (.bool false))),m 12 11,n 0 13 12 (.mov (t 0)),n 0 14 12 (.mov (t 1)),n 0 15 12 (.bin .lss (t 13) (t 14)),q 16 (.pick (t 12) (.const (.bool true)) (t 15)),m 4 16] .ret))
theorem e_cmp_Less_int_:EOk 57 17 m_cmp_Less_int_ Try.f57:=fun hn h =>
 enter Try.func57 (c:=(Try.f57.body.getD .skip)) rfl (by kernel_rfl) (Nat.le_of_ble_eq_true hn) h
def m_slices_partitionEqualOrdered_int_:MC:=(x [q 8 (.mov (i 0))] (x [m 11 0,k 1 12 (.mov (t 1)),k 2 13 (.mov (t 0)),k 3 14 (.mov (t 3)),k 4 15 (.mov (t 0)),k 5 16 (.mov (t 3)),k 6 17 (.idx (t 15) (t 16) 1),r 7 18 (.ld (t 17)),k 8 19 (.mov (t 0)),k 9 20 (.mov (t 1)),k 10 21 (.idx (t 19) (t 20) 1),r 11 22 (.ld (t 21)),k 12 23 (.idx (t 11) (t 12) 1),w (.st (t 23) (t 18)) [],k 14 24 (.idx (t 13) (t 14) 1),w (.st (t 24) (t 22)) []] (x [m 25 1,q 26 (.bin .add (t 25) (i 1)),m 27 2,q 28 (.bin .sub (t 27) (i 1)),m 9 26,m 10 28] (s (.block 0 (.loop (.block 1 (s (.block 2 (.loop (s (x [m 29 9,k 1 30 (.mov (t 10)),k 2 31 (.bin .leq (t 29) (t 30)),k 3 32 (.mov (t 31)),g 4 33 32 (.mov (t 0)),g 5 34 32 (.mov (t 1)),g 6 35 32 (.idx (t 33) (t 34) 1),h 7 36 32 (.ld (t 35)),g 8 37 32 (.mov (t 0)),g 9 38 32 (.mov (t 9)),g 10 39 32 (.idx (t 37) (t 38) 1),h 11 40 32 (.ld (t 39)),.e (some 41) (some (32,true)) (.call 57 [t 36,t 40]) [],g 13 42 32 (.un .not (t 41)),k 14 43 (.pick (t 32) (t 42) (.const (.bool false)))] (.cond (t 43) .skip (.exit 2))) (.block 3 (.reg [m 44 9,q 45 (.bin .add (t 44) (i 1)),m 9 45]))))) (s (.block 4 (.loop (s (x [m 46 9,k 1 47 (.mov (t 10)),k 2 48 (.bin .leq (t 46) (t 47)),k 3 49 (.mov (t 48)),g 4 50 49 (.mov (t 0)),g 5 51 49 (.mov (t 1)),g 6 52 49 (.idx (t 50) (t 51) 1),h 7 53 49 (.ld (t 52)),g 8 54 49 (.mov (t 0)),g 9 55 49 (.mov (t 10)),g 10 56 49 (.idx (t 54) (t 55) 1),h 11 57 49 (.ld (t 56)),.e (some 58) (some (49,true)) (.call 57 [t 53,t 57]) [],k 13 59 (.pick (t 49) (t 58) (.const (.bool false)))] (.cond (t 59) .skip (.exit 4))) (.block 5 (.reg [m 60 10,q 61 (.bin .sub (t 60) (i 1)),m 10 61]))))) (s (x [m 62 9,m 63 10,q 64 (.bin .gtr (t 62) (t 63))] (.cond (t 64) (.exit 0) .skip)) (x [m 65 0,k 1 66 (.mov (t 9)),k 2 67 (.mov (t 0)),k 3 68 (.mov (t 10)),k 4 69 (.mov (t 0)),k 5 70 (.mov (t 10)),k 6 71 (.idx (t 69) (t 70) 1),r 7 72 (.ld (t 71)),k 8 73 (.mov (t 0)),k 9 74 (.mov (t 9)),k 10 75 (.idx (t 73) (t 74) 1),r 11 76 (.ld (t 75)),k 12 77 (.idx (t 65) (t 66) 1),w (.st (t 77) (t 72)) [],k 14 78 (.idx (t 67) (t 68) 1),w (.st (t 78) (t 76)) []] (x [m 79 9,q 80 (.bin .add (t 79) (i 1)),m 9 80] (.reg [m 81 10,q 82 (.bin .sub (t 81) (i 1)),m 10 82]))))))))) (x [m 83 9,m 8 83] .ret)))))
theorem e_slices_partitionEqualOrdered_int_:EOk 58 84 m_slices_partitionEqualOrdered_int_ Try.f58:=fun hn h =>
 enter Try.func58 (c:=(Try.f58.body.getD .skip)) rfl (by kernel_rfl) (Nat.le_of_ble_eq_true hn) h
def m_slices_partitionOrdered_int_:MC:=(x [q 8 (.mov (i 0)),q 9 (.mov (.const (.bool false)))] (x [m 12 0,k 1 13 (.mov (t 1)),k 2 14 (.mov (t 0)),k 3 15 (.mov (t 3)),k 4 16 (.mov (t 0)),k 5 17 (.mov (t 3)),k 6 18 (.idx (t 16) (t 17) 1),r 7 19 (.ld (t 18)),k 8 20 (.mov (t 0)),k 9 21 (.mov (t 1)),k 10 22 (.idx (t 20) (t 21) 1),r 11 23 (.ld (t 22)),k 12 24 (.idx (t 12) (t 13) 1),w (.st (t 24) (t 19)) [],k 14 25 (.idx (t 14) (t 15) 1),w (.st (t 25) (t 23)) []] (x [m 26 1,q 27 (.bin .add (t 26) (i 1)),m 28 2,q 29 (.bin .sub (t 28) (i 1)),m 10 27,m 11 29] (s (.block 0 (.loop (s (x [m 30 10,k 1 31 (.mov (t 11)),k 2 32 (.bin .leq (t 30) (t 31)),k 3 33 (.mov (t 32)),g 4 34 33 (.mov (t 0)),g 5 35 33 (.mov (t 10)),g 6 36 33 (.idx (t 34) (t 35) 1),h 7 37 33 (.ld (t 36)),g 8 38 33 (.mov (t 0)),g 9 39 33 (.mov (t 1)),g 10 40 33 (.idx (t 38) (t 39) 1),h 11 41 33 (.ld (t 40)),.e (some 42) (some (33,true)) (.call 57 [t 37,t 41]) [],k 13 43 (.pick (t 33) (t 42) (.const (.bool false)))] (.cond (t 43) .skip (.exit 0))) (.block 1 (.reg [m 44 10,q 45 (.bin .add (t 44) (i 1)),m 10 45]))))) (s (.block 2 (.loop (s (x [m 46 10,k 1 47 (.mov (t 11)),k 2 48 (.bin .leq (t 46) (t 47)),k 3 49 (.mov (t 48)),g 4 50 49 (.mov (t 0)),g 5 51 49 (.mov (t 11)),g 6 52 49 (.idx (t 50) (t 51) 1),h 7 53 49 (.ld (t 52)),g 8 54 49 (.mov (t 0)),g 9 55 49 (.mov (t 1)),g 10 56 49 (.idx (t 54) (t 55) 1),h 11 57 49 (.ld (t 56)),.e (some 58) (some (49,true)) (.call 57 [t 53,t 57]) [],g 13 59 49 (.un .not (t 58)),k 14 60 (.pick (t 49) (t 59) (.const (.bool false)))] (.cond (t 60) .skip (.exit 2))) (.block 3 (.reg [m 61 11,q 62 (.bin .sub (t 61) (i 1)),m 11 62]))))) (s (x [m 63 10,m 64 11,q 65 (.bin .gtr (t 63) (t 64))] (.cond (t 65) (x [m 66 0,k 1 67 (.mov (t 11)),k 2 68 (.mov (t 0)),k 3 69 (.mov (t 1)),k 4 70 (.mov (t 0)),k 5 71 (.mov (t 1)),k 6 72 (.idx (t 70) (t 71) 1),r 7 73 (.ld (t 72)),k 8 74 (.mov (t 0)),k 9 75 (.mov (t 11)),k 10 76 (.idx (t 74) (t 75) 1),r 11 77 (.ld (t 76)),k 12 78 (.idx (t 66) (t 67) 1),w (.st (t 78) (t 73)) [],k 14 79 (.idx (t 68) (t 69) 1),w (.st (t 79) (t 77)) []] (x [m 80 11,m 8 80,q 9 (.mov (.const (.bool true)))] .ret)) .skip)) (x [m 81 0,k 1 82 (.mov (t 10)),k 2 83 (.mov (t 0)),k 3 84 (.mov (t 11)),k 4 85 (.mov (t 0)),k 5 86 (.mov (t 11)),k 6 87 (.idx (t 85) (t 86) 1),r 7 88 (.ld (t 87)),k 8 89 (.mov (t 0)),k 9 90 (.mov (t 10)),k 10 91 (.idx (t 89) (t 90) 1),r 11 92 (.ld (t 91)),k 12 93 (.idx (t 81) (t 82) 1),w (.st (t 93) (t 88)) [],k 14 94 (.idx (t 83) (t 84) 1),w (.st (t 94) (t 92)) []] (x [m 95 10,q 96 (.bin .add (t 95) (i 1)),m 10 96] (x [m 97 11,q 98 (.bin .sub (t 97) (i 1)),m 11 98] (s (.block 4 (.loop (.block 5 (s (.block 6 (.loop (s (x [m 99 10,k 1 100 (.mov (t 11)),k 2 101 (.bin .leq (t 99) (t 100)),k 3 102 (.mov (t 101)),g 4 103 102 (.mov (t 0)),g 5 104 102 (.mov (t 10)),g 6 105 102 (.idx (t 103) (t 104) 1),h 7 106 102 (.ld (t 105)),g 8 107 102 (.mov (t 0)),g 9 108 102 (.mov (t 1)),g 10 109 102 (.idx (t 107) (t 108) 1),h 11 110 102 (.ld (t 109)),.e (some 111) (some (102,true)) (.call 57 [t 106,t 110]) [],k 13 112 (.pick (t 102) (t 111) (.const (.bool false)))] (.cond (t 112) .skip (.exit 6))) (.block 7 (.reg [m 113 10,q 114 (.bin .add (t 113) (i 1)),m 10 114]))))) (s (.block 8 (.loop (s (x [m 115 10,k 1 116 (.mov (t 11)),k 2 117 (.bin .leq (t 115) (t 116)),k 3 118 (.mov (t 117)),g 4 119 118 (.mov (t 0)),g 5 120 118 (.mov (t 11)),g 6 121 118 (.idx (t 119) (t 120) 1),h 7 122 118 (.ld (t 121)),g 8 123 118 (.mov (t 0)),g 9 124 118 (.mov (t 1)),g 10 125 118 (.idx (t 123) (t 124) 1),h 11 126 118 (.ld (t 125)),.e (some 127) (some (118,true)) (.call 57 [t 122,t 126]) [],g 13 128 118 (.un .not (t 127)),k 14 129 (.pick (t 118) (t 128) (.const (.bool false)))] (.cond (t 129) .skip (.exit 8))) (.block 9 (.reg [m 130 11,q 131 (.bin .sub (t 130) (i 1)),m 11 131]))))) (s (x [m 132 10,m 133 11,q 134 (.bin .gtr (t 132) (t 133))] (.cond (t 134) (.exit 4) .skip)) (x [m 135 0,k 1 136 (.mov (t 10)),k 2 137 (.mov (t 0)),k 3 138 (.mov (t 11)),k 4 139 (.mov (t 0)),k 5 140 (.mov (t 11)),k 6 141 (.idx (t 139) (t 140) 1),r 7 142 (.ld (t 141)),k 8 143 (.mov (t 0)),k 9 144 (.mov (t 10)),k 10 145 (.idx (t 143) (t 144) 1),r 11 146 (.ld (t 145)),k 12 147 (.idx (t 135) (t 136) 1),w (.st (t 147) (t 142)) [],k 14 148 (.idx (t 137) (t 138) 1),w (.st (t 148) (t 146)) []] (x [m 149 10,q 150 (.bin .add (t 149) (i 1)),m 10 150] (.reg [m 151 11,q 152 (.bin .sub (t 151) (i 1)),m 11 152]))))))))) (x [m 153 0,k 1 154 (.mov (t 11)),k 2 155 (.mov (t 0)),k 3 156 (.mov (t 1)),k 4 157 (.mov (t 0)),k 5 158 (.mov (t 1)),k 6 159 (.idx (t 157) (t 158) 1),r 7 160 (.ld (t 159)),k 8 161 (.mov (t 0)),k 9 162 (.mov (t 11)),k 10 163 (.idx (t 161) (t 162) 1),r 11 164 (.ld (t 163)),k 12 165 (.idx (t 153) (t 154) 1),w (.st (t 165) (t 160)) [],k 14 166 (.idx (t 155) (t 156) 1),w (.st (t 166) (t 164)) []] (x [m 167 11,m 8 167,q 9 (.mov (.const (.bool false)))] .ret))))))))))))
theorem e_slices_partitionOrdered_int_:EOk 59 168 m_slices_partitionOrdered_int_ Try.f59:=fun hn h =>
 enter Try.func59 (c:=(Try.f59.body.getD .skip)) rfl (by kernel_rfl) (Nat.le_of_ble_eq_true hn) h
def m_math_bits_Len32:MC:=(x [q 2 (.mov (i 0))] (s (x [m 3 0,q 4 (.bin .geq (t 3) (.const (.int .u32 65536)))] (.cond (t 4) (x [m 5 0,q 6 (.sh false (t 5) (.const (.int .u64 16))),m 0 6] (.reg [q 2 (.mov (i 16))])) .skip)) (s (x [m 7 0,q 8 (.bin .geq (t 7) (.const (.int .u32 256)))] (.cond (t 8) (x [m 9 0,q 10 (.sh false (t 9) (.const (.int .u64 8))),m 0 10] (.reg [m 11 2,q 12 (.bin .add (t 11) (i 8)),m 2 12])) .skip)) (x [m 13 2,m 14 0,q 15 (.cvi .u8 (t 14)),r 0 16 (.raw (o (.index 9 (.const (.string ⟨[0,1,2,2,3,3,3,3,4,4,4,4,4,4,4,4,5,5,5,5,5,5,5,5,5,5,5,5,5,5,5,5,6,6,6,6,6,6,6,6,6,6,6,6,6,6,6,6,6,6,6,6,6,6,6,6,6,6,6,6,6,6,6,6,7,7,7,7,7,7,7,7,7,7,7,7,7,7,7,7,7,7,7,7,7,7,7,7,7,7,7,7,7,7,7,7,7,7,7,7,7,7,7,7,7,7,7,7,7,7,7,7,7,7,7,7,7,7,7,7,7,7,7,7,7,7,7,7,8,8,8,8,8,8,8,8,8,8,8,8,8,8,8,8,8,8,8,8,8,8,8,8,8,8,8,8,8,8,8,8,8,8,8,8,8,8,8,8,8,8,8,8,8,8,8,8,8,8,8,8,8,8,8,8,8,8,8,8,8,8,8,8,8,8,8,8,8,8,8,8,8,8,8,8,8,8,8,8,8,8,8,8,8,8,8,8,8,8,8,8,8,8,8,8,8,8,8,8,8,8,8,8,8,8,8,8,8,8,8,8,8,8,8,8,8,8,8,8,8,8,8,8,8,8,8,8].toArray⟩)) (t 15)) 5)),q 17 (.cvi .i64 (t 16)),q 18 (.bin .add (t 13) (t 17)),m 2 18] .ret))))
theorem e_math_bits_Len32:EOk 60 19 m_math_bits_Len32 Try.f60:=fun hn h =>
 enter Try.func60 (c:=(Try.f60.body.getD .skip)) rfl (by kernel_rfl) (Nat.le_of_ble_eq_true hn) h
def m_math_bits_Len64:MC:=(x [q 2 (.mov (i 0))] (s (x [m 3 0,q 4 (.bin .geq (t 3) (.const (.int .u64 4294967296)))] (.cond (t 4) (x [m 5 0,q 6 (.sh false (t 5) (.const (.int .u64 32))),m 0 6] (.reg [q 2 (.mov (i 32))])) .skip)) (s (x [m 7 0,q 8 (.bin .geq (t 7) (.const (.int .u64 65536)))] (.cond (t 8) (x [m 9 0,q 10 (.sh false (t 9) (.const (.int .u64 16))),m 0 10] (.reg [m 11 2,q 12 (.bin .add (t 11) (i 16)),m 2 12])) .skip)) (s (x [m 13 0,q 14 (.bin .geq (t 13) (.const (.int .u64 256)))] (.cond (t 14) (x [m 15 0,q 16 (.sh false (t 15) (.const (.int .u64 8))),m 0 16] (.reg [m 17 2,q 18 (.bin .add (t 17) (i 8)),m 2 18])) .skip)) (x [m 19 2,m 20 0,q 21 (.cvi .u8 (t 20)),r 0 22 (.raw (o (.index 9 (.const (.string ⟨[0,1,2,2,3,3,3,3,4,4,4,4,4,4,4,4,5,5,5,5,5,5,5,5,5,5,5,5,5,5,5,5,6,6,6,6,6,6,6,6,6,6,6,6,6,6,6,6,6,6,6,6,6,6,6,6,6,6,6,6,6,6,6,6,7,7,7,7,7,7,7,7,7,7,7,7,7,7,7,7,7,7,7,7,7,7,7,7,7,7,7,7,7,7,7,7,7,7,7,7,7,7,7,7,7,7,7,7,7,7,7,7,7,7,7,7,7,7,7,7,7,7,7,7,7,7,7,7,8,8,8,8,8,8,8,8,8,8,8,8,8,8,8,8,8,8,8,8,8,8,8,8,8,8,8,8,8,8,8,8,8,8,8,8,8,8,8,8,8,8,8,8,8,8,8,8,8,8,8,8,8,8,8,8,8,8,8,8,8,8,8,8,8,8,8,8,8,8,8,8,8,8,8,8,8,8,8,8,8,8,8,8,8,8,8,8,8,8,8,8,8,8,8,8,8,8,8,8,8,8,8,8,8,8,8,8,8,8,8,8,8,8,8,8,8,8,8,8,8,8,8,8,8,8,8,8].toArray⟩)) (t 21)) 5)),q 23 (.cvi .i64 (t 22)),q 24 (.bin .add (t 19) (t 23)),m 2 24] .ret)))))
theorem e_math_bits_Len64:EOk 61 25 m_math_bits_Len64 Try.f61:=fun hn h =>
 enter Try.func61 (c:=(Try.f61.body.getD .skip)) rfl (by kernel_rfl) (Nat.le_of_ble_eq_true hn) h
def m_slices_siftDownOrdered_int_:MC:=(x [m 10 1,m 8 10] (.block 0 (.loop (.block 1 (x [m 11 8,q 12 (.bin .mul (i 2) (t 11)),q 13 (.bin .add (t 12) (i 1)),m 9 13] (s (x [m 14 9,m 15 2,q 16 (.bin .geq (t 14) (t 15))] (.cond (t 16) (.exit 0) .skip)) (s (x [m 17 9,k 1 18 (.bin .add (t 17) (i 1)),k 2 19 (.mov (t 2)),k 3 20 (.bin .lss (t 18) (t 19)),k 4 21 (.mov (t 20)),g 5 22 21 (.mov (t 0)),g 6 23 21 (.mov (t 3)),g 7 24 21 (.mov (t 9)),g 8 25 21 (.bin .add (t 23) (t 24)),g 9 26 21 (.idx (t 22) (t 25) 1),h 10 27 21 (.ld (t 26)),g 11 28 21 (.mov (t 0)),g 12 29 21 (.mov (t 3)),g 13 30 21 (.mov (t 9)),g 14 31 21 (.bin .add (t 29) (t 30)),g 15 32 21 (.bin .add (t 31) (i 1)),g 16 33 21 (.idx (t 28) (t 32) 1),h 17 34 21 (.ld (t 33)),.e (some 35) (some (21,true)) (.call 57 [t 27,t 34]) [],k 19 36 (.pick (t 21) (t 35) (.const (.bool false)))] (.cond (t 36) (.reg [m 37 9,q 38 (.bin .add (t 37) (i 1)),m 9 38]) .skip)) (s (x [m 39 0,k 1 40 (.mov (t 3)),k 2 41 (.mov (t 8)),k 3 42 (.bin .add (t 40) (t 41)),k 4 43 (.idx (t 39) (t 42) 1),r 5 44 (.ld (t 43)),k 6 45 (.mov (t 0)),k 7 46 (.mov (t 3)),k 8 47 (.mov (t 9)),k 9 48 (.bin .add (t 46) (t 47)),k 10 49 (.idx (t 45) (t 48) 1),r 11 50 (.ld (t 49)),e 51 (.call 57 [t 44,t 50]) [],k 13 52 (.un .not (t 51))] (.cond (t 52) .ret .skip)) (x [m 53 0,k 1 54 (.mov (t 3)),k 2 55 (.mov (t 8)),k 3 56 (.bin .add (t 54) (t 55)),k 4 57 (.mov (t 0)),k 5 58 (.mov (t 3)),k 6 59 (.mov (t 9)),k 7 60 (.bin .add (t 58) (t 59)),k 8 61 (.mov (t 0)),k 9 62 (.mov (t 3)),k 10 63 (.mov (t 9)),k 11 64 (.bin .add (t 62) (t 63)),k 12 65 (.idx (t 61) (t 64) 1),r 13 66 (.ld (t 65)),k 14 67 (.mov (t 0)),k 15 68 (.mov (t 3)),k 16 69 (.mov (t 8)),k 17 70 (.bin .add (t 68) (t 69)),k 18 71 (.idx (t 67) (t 70) 1),r 19 72 (.ld (t 71)),k 20 73 (.idx (t 53) (t 56) 1),w (.st (t 73) (t 66)) [],k 22 74 (.idx (t 57) (t 60) 1),w (.st (t 74) (t 72)) []] (.reg [m 75 9,m 8 75]))))))))))
theorem e_slices_siftDownOrdered_int_:EOk 62 76 m_slices_siftDownOrdered_int_ Try.f62:=fun hn h =>
 enter Try.func62 (c:=(Try.f62.body.getD .skip)) rfl (by kernel_rfl) (Nat.le_of_ble_eq_true hn) h
def m_slices_nextPowerOfTwo:MC:=(x [q 2 (.mov (.const (.int .u64 0)))] (x [m 3 0,q 4 (.cvi .u64 (t 3)),e 5 (.call 49 [t 4]) [],q 6 (.sh true (.const (.int .u64 1)) (t 5)),m 2 6] .ret))
theorem e_slices_nextPowerOfTwo:EOk 63 7 m_slices_nextPowerOfTwo Try.f63:=fun hn h =>
 enter Try.func63 (c:=(Try.f63.body.getD .skip)) rfl (by kernel_rfl) (Nat.le_of_ble_eq_true hn) h
def m_slices_xorshift_Next:MC:=(x [q 2 (.mov (.const (.int .u64 0)))] (x [m 3 0,k 1 4 (.nilc (t 3)),r 2 5 (.ld (t 4)),k 3 6 (.mov (t 0)),k 4 7 (.nilc (t 6)),r 5 8 (.ld (t 7)),k 6 9 (.sh true (t 8) (.const (.int .u64 13))),k 7 10 (.bin .xor (t 5) (t 9)),k 8 11 (.nilc (t 3)),w (.st (t 11) (t 10)) []] (x [m 12 0,k 1 13 (.nilc (t 12)),r 2 14 (.ld (t 13)),k 3 15 (.mov (t 0)),k 4 16 (.nilc (t 15)),r 5 17 (.ld (t 16)),k 6 18 (.sh false (t 17) (.const (.int .u64 7))),k 7 19 (.bin .xor (t 14) (t 18)),k 8 20 (.nilc (t 12)),w (.st (t 20) (t 19)) []] (x [m 21 0,k 1 22 (.nilc (t 21)),r 2 23 (.ld (t 22)),k 3 24 (.mov (t 0)),k 4 25 (.nilc (t 24)),r 5 26 (.ld (t 25)),k 6 27 (.sh true (t 26) (.const (.int .u64 17))),k 7 28 (.bin .xor (t 23) (t 27)),k 8 29 (.nilc (t 21)),w (.st (t 29) (t 28)) []] (x [m 30 0,q 31 (.nilc (t 30)),l 32 31,m 2 32] .ret)))))
theorem e_slices_xorshift_Next:EOk 64 33 m_slices_xorshift_Next Try.f64:=fun hn h =>
 enter Try.func64 (c:=(Try.f64.body.getD .skip)) rfl (by kernel_rfl) (Nat.le_of_ble_eq_true hn) h
def m_slices_medianAdjacentOrdered_int_:MC:=(x [q 6 (.mov (i 0))] (x [m 7 0,m 8 1,q 9 (.bin .sub (t 8) (i 1)),m 10 1,m 11 1,q 12 (.bin .add (t 11) (i 1)),m 13 2,e 14 (.call 66 [t 7,t 9,t 10,t 12,t 13]) [],m 6 14] .ret))
theorem e_slices_medianAdjacentOrdered_int_:EOk 65 15 m_slices_medianAdjacentOrdered_int_ Try.f65:=fun hn h =>
 enter Try.func65 (c:=(Try.f65.body.getD .skip)) rfl (by kernel_rfl) (Nat.le_of_ble_eq_true hn) h
def m_slices_medianOrdered_int_:MC:=(x [q 10 (.mov (i 0))] (x [m 12 0,m 13 1,m 14 2,m 15 4,e 16 (.call 68 [t 12,t 13,t 14,t 15]) [],m 11 16,q 17 (.ext (t 11) 0),q 18 (.ext (t 11) 1),m 1 17,m 2 18] (x [m 20 0,m 21 2,m 22 3,m 23 4,e 24 (.call 68 [t 20,t 21,t 22,t 23]) [],m 19 24,q 25 (.ext (t 19) 0),q 26 (.ext (t 19) 1),m 2 25,m 3 26] (x [m 28 0,m 29 1,m 30 2,m 31 4,e 32 (.call 68 [t 28,t 29,t 30,t 31]) [],m 27 32,q 33 (.ext (t 27) 0),q 34 (.ext (t 27) 1),m 1 33,m 2 34] (x [m 35 2,m 10 35] .ret)))))
theorem e_slices_medianOrdered_int_:EOk 66 36 m_slices_medianOrdered_int_ Try.f66:=fun hn h =>
 enter Try.func66 (c:=(Try.f66.body.getD .skip)) rfl (by kernel_rfl) (Nat.le_of_ble_eq_true hn) h
def m_cmp_isNaN_int_:MC:=(x [q 2 (.mov (.const (.bool false)))] (x [m 3 0,m 4 0,q 5 (.bin .neq (t 3) (t 4)),m 2 5] .ret))
theorem e_cmp_isNaN_int_:EOk 67 6 m_cmp_isNaN_int_ Try.f67:=fun hn h =>
 enter Try.func67 (c:=(Try.f67.body.getD .skip)) rfl (by kernel_rfl) (Nat.le_of_ble_eq_true hn) h
def m_slices_order2Ordered_int_:MC:=(x [q 8 (.mov (i 0)),q 9 (.mov (i 0))] (s (x [m 10 0,k 1 11 (.mov (t 2)),k 2 12 (.idx (t 10) (t 11) 1),r 3 13 (.ld (t 12)),k 4 14 (.mov (t 0)),k 5 15 (.mov (t 1)),k 6 16 (.idx (t 14) (t 15) 1),r 7 17 (.ld (t 16)),e 18 (.call 57 [t 13,t 17]) []] (.cond (t 18) (x [m 19 3,q 20 (.nilc (t 19)),l 21 20,q 22 (.bin .add (t 21) (i 1)),q 23 (.nilc (t 19)),w (.st (t 23) (t 22)) []] (x [m 24 2,m 25 1,m 8 24,m 9 25] .ret)) .skip)) (x [m 26 1,m 27 2,m 8 26,m 9 27] .ret)))
theorem e_slices_order2Ordered_int_:EOk 68 28 m_slices_order2Ordered_int_ Try.f68:=fun hn h =>
 enter Try.func68 (c:=(Try.f68.body.getD .skip)) rfl (by kernel_rfl) (Nat.le_of_ble_eq_true hn) h
end Go.Proofs.Ytpnjahijpdfcgaa
end
section
namespace Go.Proofs.Ytpnjahijpdfcgaa
open Go Go.Tum
def isTmpR:RV→Bool
 | .tmp _=>true
 | _=>false
theorem rowKit {k np:Nat} {res:List RV} {m:MC} {fn:Func} (e:EOk k np m fn) (h1:callable Try.prog k=true:=by kernel_rfl) (h2:Nat.ble res.length 4=true:=by exact rfl) (h3:fn.results=(res.map RV.real).toArray:=by exact rfl) (h4:res.all isTmpR=true:=by exact rfl):FnRow.Ok Try.prog ⟨k,np,res,m⟩ :=
 ⟨h1,fn,Nat.le_of_ble_eq_true h2,h3,fun r hr=>(by have:=List.all_eq_true.1 h4 r hr; cases r with | tmp _=>exact trivial | cell _ _ _=>cases this),fun _ _ _ hn h=>e hn h⟩
def row_tumbrellaw08_LargePlays:FnRow:=⟨3,205,[(.tmp 6)],m_tumbrellaw08_LargePlays⟩
theorem row_tumbrellaw08_LargePlays_ok:row_tumbrellaw08_LargePlays.Ok Try.prog:=rowKit e_tumbrellaw08_LargePlays
def row_arena_New:FnRow:=⟨4,10,[(.tmp 2)],m_arena_New⟩
theorem row_arena_New_ok:row_arena_New.Ok Try.prog:=rowKit e_arena_New
def row_link_New:FnRow:=⟨5,7,[(.cell 2 27 1)],m_link_New⟩
theorem row_link_New_ok:row_link_New.Ok Try.prog:=⟨(by kernel_rfl:callable Try.prog 5=true),Try.f5,Nat.le_of_ble_eq_true rfl,rfl,fun r hr=>(by rcases List.mem_cons.1 hr with rfl | hr; exact (by show aggT Try.prog 27=some 1; kernel_rfl); exact (by cases hr)),fun _ _ _ hn h=>e_link_New hn h⟩
def row_large_New:FnRow:=⟨6,12,[(.tmp 4)],m_large_New⟩
theorem row_large_New_ok:row_large_New.Ok Try.prog:=rowKit e_large_New
def row_large_Set_Make:FnRow:=⟨7,71,[(.tmp 6)],m_large_Set_Make⟩
theorem row_large_Set_Make_ok:row_large_Set_Make.Ok Try.prog:=rowKit e_large_Set_Make
def row_tumbrelref08_Set_Make:FnRow:=⟨8,136,[(.tmp 6)],m_tumbrelref08_Set_Make⟩
theorem row_tumbrelref08_Set_Make_ok:row_tumbrelref08_Set_Make.Ok Try.prog:=rowKit e_tumbrelref08_Set_Make
def row_large_Set_Drop:FnRow:=⟨9,41,[(.tmp 4),(.tmp 5)],m_large_Set_Drop⟩
theorem row_large_Set_Drop_ok:row_large_Set_Drop.Ok Try.prog:=rowKit e_large_Set_Drop
def row_tumbrelref08_Set_Drop:FnRow:=⟨10,51,[(.tmp 4),(.tmp 5)],m_tumbrelref08_Set_Drop⟩
theorem row_tumbrelref08_Set_Drop_ok:row_tumbrelref08_Set_Drop.Ok Try.prog:=rowKit e_tumbrelref08_Set_Drop
def row_arena_Arena_Store:FnRow:=⟨11,24,[(.tmp 6)],m_arena_Arena_Store⟩
theorem row_arena_Arena_Store_ok:row_arena_Arena_Store.Ok Try.prog:=rowKit e_arena_Arena_Store
def row_large_Set_All:FnRow:=⟨12,11,[(.tmp 2)],m_large_Set_All⟩
theorem row_large_Set_All_ok:row_large_Set_All.Ok Try.prog:=rowKit e_large_Set_All
def row_tumbrelref08_Set_Stands:FnRow:=⟨13,34,[(.tmp 4)],m_tumbrelref08_Set_Stands⟩
theorem row_tumbrelref08_Set_Stands_ok:row_tumbrelref08_Set_Stands.Ok Try.prog:=rowKit e_tumbrelref08_Set_Stands
def row_large_Set_Size:FnRow:=⟨14,13,[(.tmp 4)],m_large_Set_Size⟩
theorem row_large_Set_Size_ok:row_large_Set_Size.Ok Try.prog:=rowKit e_large_Set_Size
def row_arena_Arena_Load:FnRow:=⟨15,26,[(.tmp 6),(.tmp 7)],m_arena_Arena_Load⟩
theorem row_arena_Arena_Load_ok:row_arena_Arena_Load.Ok Try.prog:=rowKit e_arena_Arena_Load
def row_large_Set_Check:FnRow:=⟨16,19,[(.tmp 2)],m_large_Set_Check⟩
theorem row_large_Set_Check_ok:row_large_Set_Check.Ok Try.prog:=rowKit e_large_Set_Check
def row_tumbrellaw08_awake:FnRow:=⟨17,18,[(.tmp 0)],m_tumbrellaw08_awake⟩
theorem row_tumbrellaw08_awake_ok:row_tumbrellaw08_awake.Ok Try.prog:=rowKit e_tumbrellaw08_awake
def row_link_mix:FnRow:=⟨18,17,[(.tmp 2)],m_link_mix⟩
theorem row_link_mix_ok:row_link_mix.Ok Try.prog:=rowKit e_link_mix
def row_class_Pages:FnRow:=⟨19,16,[(.tmp 2),(.tmp 3)],m_class_Pages⟩
theorem row_class_Pages_ok:row_class_Pages.Ok Try.prog:=rowKit e_class_Pages
def row_arena_Arena_Len:FnRow:=⟨20,10,[(.tmp 2)],m_arena_Arena_Len⟩
theorem row_arena_Arena_Len_ok:row_arena_Arena_Len.Ok Try.prog:=rowKit e_arena_Arena_Len
def row_large_Set_meets:FnRow:=⟨21,32,[(.tmp 6)],m_large_Set_meets⟩
theorem row_large_Set_meets_ok:row_large_Set_meets.Ok Try.prog:=rowKit e_large_Set_meets
def row_arena_Arena_Fill:FnRow:=⟨22,33,[(.tmp 8)],m_arena_Arena_Fill⟩
theorem row_arena_Arena_Fill_ok:row_arena_Arena_Fill.Ok Try.prog:=rowKit e_arena_Arena_Fill
def row_large_Set_canary:FnRow:=⟨23,21,[(.tmp 6),(.tmp 7)],m_large_Set_canary⟩
theorem row_large_Set_canary_ok:row_large_Set_canary.Ok Try.prog:=rowKit e_large_Set_canary
def row_arena_Arena_SetWord:FnRow:=⟨24,23,[(.tmp 6)],m_arena_Arena_SetWord⟩
theorem row_arena_Arena_SetWord_ok:row_arena_Arena_SetWord.Ok Try.prog:=rowKit e_arena_Arena_SetWord
def row_tumbrelref05_Pages:FnRow:=⟨25,18,[(.tmp 2)],m_tumbrelref05_Pages⟩
theorem row_tumbrelref05_Pages_ok:row_tumbrelref05_Pages.Ok Try.prog:=rowKit e_tumbrelref05_Pages
def row_tumbrelref08_Set_fill:FnRow:=⟨26,34,[],m_tumbrelref08_Set_fill⟩
theorem row_tumbrelref08_Set_fill_ok:row_tumbrelref08_Set_fill.Ok Try.prog:=rowKit e_tumbrelref08_Set_fill
def row_tumbrelref01_Put:FnRow:=⟨27,25,[(.tmp 4)],m_tumbrelref01_Put⟩
theorem row_tumbrelref01_Put_ok:row_tumbrelref01_Put.Ok Try.prog:=rowKit e_tumbrelref01_Put
def row_tumbrelref06_Mix:FnRow:=⟨28,19,[(.tmp 2)],m_tumbrelref06_Mix⟩
theorem row_tumbrelref06_Mix_ok:row_tumbrelref06_Mix.Ok Try.prog:=rowKit e_tumbrelref06_Mix
def row_large_Set_stands:FnRow:=⟨29,37,[(.tmp 4)],m_large_Set_stands⟩
theorem row_large_Set_stands_ok:row_large_Set_stands.Ok Try.prog:=rowKit e_large_Set_stands
def row_large_run:FnRow:=⟨30,11,[(.tmp 2)],m_large_run⟩
theorem row_large_run_ok:row_large_run.Ok Try.prog:=rowKit e_large_run
def row_tumbrelref08_Set_At:FnRow:=⟨31,23,[(.tmp 4)],m_tumbrelref08_Set_At⟩
theorem row_tumbrelref08_Set_At_ok:row_tumbrelref08_Set_At.Ok Try.prog:=rowKit e_tumbrelref08_Set_At
def row_arena_Arena_in:FnRow:=⟨32,37,[(.tmp 6)],m_arena_Arena_in⟩
theorem row_arena_Arena_in_ok:row_arena_Arena_in.Ok Try.prog:=rowKit e_arena_Arena_in
def row_slices_Sorted_int_:FnRow:=⟨33,9,[(.tmp 2)],m_slices_Sorted_int_⟩
theorem row_slices_Sorted_int__ok:row_slices_Sorted_int_.Ok Try.prog:=rowKit e_slices_Sorted_int_
def row_maps_Keys_map_int_int_int_int_:FnRow:=⟨34,4,[(.tmp 2)],m_maps_Keys_map_int_int_int_int_⟩
theorem row_maps_Keys_map_int_int_int_int__ok:row_maps_Keys_map_int_int_int_int_.Ok Try.prog:=rowKit e_maps_Keys_map_int_int_int_int_
def row_tumbrelref01_Get:FnRow:=⟨35,26,[(.tmp 2)],m_tumbrelref01_Get⟩
theorem row_tumbrelref01_Get_ok:row_tumbrelref01_Get.Ok Try.prog:=rowKit e_tumbrelref01_Get
def row_bytes_Clone:FnRow:=⟨36,8,[(.tmp 2)],m_bytes_Clone⟩
theorem row_bytes_Clone_ok:row_bytes_Clone.Ok Try.prog:=rowKit e_bytes_Clone
def row_class_Room:FnRow:=⟨37,7,[(.tmp 2)],m_class_Room⟩
theorem row_class_Room_ok:row_class_Room.Ok Try.prog:=rowKit e_class_Room
def row_link_Code_Canary:FnRow:=⟨38,11,[(.tmp 4)],m_link_Code_Canary⟩
theorem row_link_Code_Canary_ok:row_link_Code_Canary.Ok Try.prog:=rowKit e_link_Code_Canary
def row_arena_Arena_word:FnRow:=⟨39,15,[(.tmp 4)],m_arena_Arena_word⟩
theorem row_arena_Arena_word_ok:row_arena_Arena_word.Ok Try.prog:=rowKit e_arena_Arena_word
def row_num_Put:FnRow:=⟨40,30,[(.tmp 4)],m_num_Put⟩
theorem row_num_Put_ok:row_num_Put.Ok Try.prog:=rowKit e_num_Put
def row_arena_Arena_Word:FnRow:=⟨41,22,[(.tmp 4),(.tmp 5)],m_arena_Arena_Word⟩
theorem row_arena_Arena_Word_ok:row_arena_Arena_Word.Ok Try.prog:=rowKit e_arena_Arena_Word
def row_slices_Collect_int_:FnRow:=⟨42,5,[(.tmp 2)],m_slices_Collect_int_⟩
theorem row_slices_Collect_int__ok:row_slices_Collect_int_.Ok Try.prog:=rowKit e_slices_Collect_int_
def row_slices_Sort_int_int_:FnRow:=⟨43,11,[],m_slices_Sort_int_int_⟩
theorem row_slices_Sort_int_int__ok:row_slices_Sort_int_int_.Ok Try.prog:=rowKit e_slices_Sort_int_int_
def row_maps_Keys_map_int_int_int_int__c1:FnRow:=⟨44,14,[],m_maps_Keys_map_int_int_int_int__c1⟩
theorem row_maps_Keys_map_int_int_int_int__c1_ok:row_maps_Keys_map_int_int_int_int__c1.Ok Try.prog:=rowKit e_maps_Keys_map_int_int_int_int__c1
def row_class_Size:FnRow:=⟨45,8,[(.tmp 2)],m_class_Size⟩
theorem row_class_Size_ok:row_class_Size.Ok Try.prog:=rowKit e_class_Size
def row_num_Get:FnRow:=⟨46,23,[(.tmp 2)],m_num_Get⟩
theorem row_num_Get_ok:row_num_Get.Ok Try.prog:=rowKit e_num_Get
def row_slices_pdqsortOrdered_int_:FnRow:=⟨48,134,[],m_slices_pdqsortOrdered_int_⟩
theorem row_slices_pdqsortOrdered_int__ok:row_slices_pdqsortOrdered_int_.Ok Try.prog:=rowKit e_slices_pdqsortOrdered_int_
def row_math_bits_Len:FnRow:=⟨49,8,[(.tmp 2)],m_math_bits_Len⟩
theorem row_math_bits_Len_ok:row_math_bits_Len.Ok Try.prog:=rowKit e_math_bits_Len
def row_class_may:FnRow:=⟨50,9,[(.tmp 2)],m_class_may⟩
theorem row_class_may_ok:row_class_may.Ok Try.prog:=rowKit e_class_may
def row_slices_insertionSortOrdered_int_:FnRow:=⟨51,49,[],m_slices_insertionSortOrdered_int_⟩
theorem row_slices_insertionSortOrdered_int__ok:row_slices_insertionSortOrdered_int_.Ok Try.prog:=rowKit e_slices_insertionSortOrdered_int_
def row_slices_heapSortOrdered_int_:FnRow:=⟨52,56,[],m_slices_heapSortOrdered_int_⟩
theorem row_slices_heapSortOrdered_int__ok:row_slices_heapSortOrdered_int_.Ok Try.prog:=rowKit e_slices_heapSortOrdered_int_
def row_slices_breakPatternsOrdered_int_:FnRow:=⟨53,65,[],m_slices_breakPatternsOrdered_int_⟩
theorem row_slices_breakPatternsOrdered_int__ok:row_slices_breakPatternsOrdered_int_.Ok Try.prog:=rowKit e_slices_breakPatternsOrdered_int_
def row_slices_choosePivotOrdered_int_:FnRow:=⟨54,57,[(.tmp 6),(.tmp 7)],m_slices_choosePivotOrdered_int_⟩
theorem row_slices_choosePivotOrdered_int__ok:row_slices_choosePivotOrdered_int_.Ok Try.prog:=rowKit e_slices_choosePivotOrdered_int_
def row_slices_reverseRangeOrdered_int_:FnRow:=⟨55,32,[],m_slices_reverseRangeOrdered_int_⟩
theorem row_slices_reverseRangeOrdered_int__ok:row_slices_reverseRangeOrdered_int_.Ok Try.prog:=rowKit e_slices_reverseRangeOrdered_int_
def row_slices_partialInsertionSortOrdered_int_:FnRow:=⟨56,133,[(.tmp 6)],m_slices_partialInsertionSortOrdered_int_⟩
theorem row_slices_partialInsertionSortOrdered_int__ok:row_slices_partialInsertionSortOrdered_int_.Ok Try.prog:=rowKit e_slices_partialInsertionSortOrdered_int_
def row_cmp_Less_int_:FnRow:=⟨57,17,[(.tmp 4)],m_cmp_Less_int_⟩
theorem row_cmp_Less_int__ok:row_cmp_Less_int_.Ok Try.prog:=rowKit e_cmp_Less_int_
def row_slices_partitionEqualOrdered_int_:FnRow:=⟨58,84,[(.tmp 8)],m_slices_partitionEqualOrdered_int_⟩
theorem row_slices_partitionEqualOrdered_int__ok:row_slices_partitionEqualOrdered_int_.Ok Try.prog:=rowKit e_slices_partitionEqualOrdered_int_
def row_slices_partitionOrdered_int_:FnRow:=⟨59,168,[(.tmp 8),(.tmp 9)],m_slices_partitionOrdered_int_⟩
theorem row_slices_partitionOrdered_int__ok:row_slices_partitionOrdered_int_.Ok Try.prog:=rowKit e_slices_partitionOrdered_int_
def row_math_bits_Len32:FnRow:=⟨60,19,[(.tmp 2)],m_math_bits_Len32⟩
theorem row_math_bits_Len32_ok:row_math_bits_Len32.Ok Try.prog:=rowKit e_math_bits_Len32
def row_math_bits_Len64:FnRow:=⟨61,25,[(.tmp 2)],m_math_bits_Len64⟩
theorem row_math_bits_Len64_ok:row_math_bits_Len64.Ok Try.prog:=rowKit e_math_bits_Len64
def row_slices_siftDownOrdered_int_:FnRow:=⟨62,76,[],m_slices_siftDownOrdered_int_⟩
theorem row_slices_siftDownOrdered_int__ok:row_slices_siftDownOrdered_int_.Ok Try.prog:=rowKit e_slices_siftDownOrdered_int_
def row_slices_nextPowerOfTwo:FnRow:=⟨63,7,[(.tmp 2)],m_slices_nextPowerOfTwo⟩
theorem row_slices_nextPowerOfTwo_ok:row_slices_nextPowerOfTwo.Ok Try.prog:=rowKit e_slices_nextPowerOfTwo
def row_slices_xorshift_Next:FnRow:=⟨64,33,[(.tmp 2)],m_slices_xorshift_Next⟩
theorem row_slices_xorshift_Next_ok:row_slices_xorshift_Next.Ok Try.prog:=rowKit e_slices_xorshift_Next
def row_slices_medianAdjacentOrdered_int_:FnRow:=⟨65,15,[(.tmp 6)],m_slices_medianAdjacentOrdered_int_⟩
theorem row_slices_medianAdjacentOrdered_int__ok:row_slices_medianAdjacentOrdered_int_.Ok Try.prog:=rowKit e_slices_medianAdjacentOrdered_int_
def row_slices_medianOrdered_int_:FnRow:=⟨66,36,[(.tmp 10)],m_slices_medianOrdered_int_⟩
theorem row_slices_medianOrdered_int__ok:row_slices_medianOrdered_int_.Ok Try.prog:=rowKit e_slices_medianOrdered_int_
def row_cmp_isNaN_int_:FnRow:=⟨67,6,[(.tmp 2)],m_cmp_isNaN_int_⟩
theorem row_cmp_isNaN_int__ok:row_cmp_isNaN_int_.Ok Try.prog:=rowKit e_cmp_isNaN_int_
def row_slices_order2Ordered_int_:FnRow:=⟨68,28,[(.tmp 8),(.tmp 9)],m_slices_order2Ordered_int_⟩
theorem row_slices_order2Ordered_int__ok:row_slices_order2Ordered_int_.Ok Try.prog:=rowKit e_slices_order2Ordered_int_
def rows:List FnRow:=[row_tumbrellaw08_LargePlays,row_arena_New,row_link_New,row_large_New,row_large_Set_Make,row_tumbrelref08_Set_Make,row_large_Set_Drop,row_tumbrelref08_Set_Drop,row_arena_Arena_Store,row_large_Set_All,row_tumbrelref08_Set_Stands,row_large_Set_Size,row_arena_Arena_Load,row_large_Set_Check,row_tumbrellaw08_awake,row_link_mix,row_class_Pages,row_arena_Arena_Len,row_large_Set_meets,row_arena_Arena_Fill,row_large_Set_canary,row_arena_Arena_SetWord,row_tumbrelref05_Pages,row_tumbrelref08_Set_fill,row_tumbrelref01_Put,row_tumbrelref06_Mix,row_large_Set_stands,row_large_run,row_tumbrelref08_Set_At,row_arena_Arena_in,row_slices_Sorted_int_,row_maps_Keys_map_int_int_int_int_,row_tumbrelref01_Get,row_bytes_Clone,row_class_Room,row_link_Code_Canary,row_arena_Arena_word,row_num_Put,row_arena_Arena_Word,row_slices_Collect_int_,row_slices_Sort_int_int_,row_maps_Keys_map_int_int_int_int__c1,row_class_Size,row_num_Get,row_slices_pdqsortOrdered_int_,row_math_bits_Len,row_class_may,row_slices_insertionSortOrdered_int_,row_slices_heapSortOrdered_int_,row_slices_breakPatternsOrdered_int_,row_slices_choosePivotOrdered_int_,row_slices_reverseRangeOrdered_int_,row_slices_partialInsertionSortOrdered_int_,row_cmp_Less_int_,row_slices_partitionEqualOrdered_int_,row_slices_partitionOrdered_int_,row_math_bits_Len32,row_math_bits_Len64,row_slices_siftDownOrdered_int_,row_slices_nextPowerOfTwo,row_slices_xorshift_Next,row_slices_medianAdjacentOrdered_int_,row_slices_medianOrdered_int_,row_cmp_isNaN_int_,row_slices_order2Ordered_int_]
theorem rows_ok:∀ x∈rows,x.Ok Try.prog:=by
 refine List.forall_mem_cons.2 ⟨row_tumbrellaw08_LargePlays_ok,?_⟩
 refine List.forall_mem_cons.2 ⟨row_arena_New_ok,?_⟩
 refine List.forall_mem_cons.2 ⟨row_link_New_ok,?_⟩
 refine List.forall_mem_cons.2 ⟨row_large_New_ok,?_⟩
 refine List.forall_mem_cons.2 ⟨row_large_Set_Make_ok,?_⟩
 refine List.forall_mem_cons.2 ⟨row_tumbrelref08_Set_Make_ok,?_⟩
 refine List.forall_mem_cons.2 ⟨row_large_Set_Drop_ok,?_⟩
 refine List.forall_mem_cons.2 ⟨row_tumbrelref08_Set_Drop_ok,?_⟩
 refine List.forall_mem_cons.2 ⟨row_arena_Arena_Store_ok,?_⟩
 refine List.forall_mem_cons.2 ⟨row_large_Set_All_ok,?_⟩
 refine List.forall_mem_cons.2 ⟨row_tumbrelref08_Set_Stands_ok,?_⟩
 refine List.forall_mem_cons.2 ⟨row_large_Set_Size_ok,?_⟩
 refine List.forall_mem_cons.2 ⟨row_arena_Arena_Load_ok,?_⟩
 refine List.forall_mem_cons.2 ⟨row_large_Set_Check_ok,?_⟩
 refine List.forall_mem_cons.2 ⟨row_tumbrellaw08_awake_ok,?_⟩
 refine List.forall_mem_cons.2 ⟨row_link_mix_ok,?_⟩
 refine List.forall_mem_cons.2 ⟨row_class_Pages_ok,?_⟩
 refine List.forall_mem_cons.2 ⟨row_arena_Arena_Len_ok,?_⟩
 refine List.forall_mem_cons.2 ⟨row_large_Set_meets_ok,?_⟩
 refine List.forall_mem_cons.2 ⟨row_arena_Arena_Fill_ok,?_⟩
 refine List.forall_mem_cons.2 ⟨row_large_Set_canary_ok,?_⟩
 refine List.forall_mem_cons.2 ⟨row_arena_Arena_SetWord_ok,?_⟩
 refine List.forall_mem_cons.2 ⟨row_tumbrelref05_Pages_ok,?_⟩
 refine List.forall_mem_cons.2 ⟨row_tumbrelref08_Set_fill_ok,?_⟩
 refine List.forall_mem_cons.2 ⟨row_tumbrelref01_Put_ok,?_⟩
 refine List.forall_mem_cons.2 ⟨row_tumbrelref06_Mix_ok,?_⟩
 refine List.forall_mem_cons.2 ⟨row_large_Set_stands_ok,?_⟩
 refine List.forall_mem_cons.2 ⟨row_large_run_ok,?_⟩
 refine List.forall_mem_cons.2 ⟨row_tumbrelref08_Set_At_ok,?_⟩
 refine List.forall_mem_cons.2 ⟨row_arena_Arena_in_ok,?_⟩
 refine List.forall_mem_cons.2 ⟨row_slices_Sorted_int__ok,?_⟩
 refine List.forall_mem_cons.2 ⟨row_maps_Keys_map_int_int_int_int__ok,?_⟩
 refine List.forall_mem_cons.2 ⟨row_tumbrelref01_Get_ok,?_⟩
 refine List.forall_mem_cons.2 ⟨row_bytes_Clone_ok,?_⟩
 refine List.forall_mem_cons.2 ⟨row_class_Room_ok,?_⟩
 refine List.forall_mem_cons.2 ⟨row_link_Code_Canary_ok,?_⟩
 refine List.forall_mem_cons.2 ⟨row_arena_Arena_word_ok,?_⟩
 refine List.forall_mem_cons.2 ⟨row_num_Put_ok,?_⟩
 refine List.forall_mem_cons.2 ⟨row_arena_Arena_Word_ok,?_⟩
 refine List.forall_mem_cons.2 ⟨row_slices_Collect_int__ok,?_⟩
 refine List.forall_mem_cons.2 ⟨row_slices_Sort_int_int__ok,?_⟩
 refine List.forall_mem_cons.2 ⟨row_maps_Keys_map_int_int_int_int__c1_ok,?_⟩
 refine List.forall_mem_cons.2 ⟨row_class_Size_ok,?_⟩
 refine List.forall_mem_cons.2 ⟨row_num_Get_ok,?_⟩
 refine List.forall_mem_cons.2 ⟨row_slices_pdqsortOrdered_int__ok,?_⟩
 refine List.forall_mem_cons.2 ⟨row_math_bits_Len_ok,?_⟩
 refine List.forall_mem_cons.2 ⟨row_class_may_ok,?_⟩
 refine List.forall_mem_cons.2 ⟨row_slices_insertionSortOrdered_int__ok,?_⟩
 refine List.forall_mem_cons.2 ⟨row_slices_heapSortOrdered_int__ok,?_⟩
 refine List.forall_mem_cons.2 ⟨row_slices_breakPatternsOrdered_int__ok,?_⟩
 refine List.forall_mem_cons.2 ⟨row_slices_choosePivotOrdered_int__ok,?_⟩
 refine List.forall_mem_cons.2 ⟨row_slices_reverseRangeOrdered_int__ok,?_⟩
 refine List.forall_mem_cons.2 ⟨row_slices_partialInsertionSortOrdered_int__ok,?_⟩
 refine List.forall_mem_cons.2 ⟨row_cmp_Less_int__ok,?_⟩
 refine List.forall_mem_cons.2 ⟨row_slices_partitionEqualOrdered_int__ok,?_⟩
 refine List.forall_mem_cons.2 ⟨row_slices_partitionOrdered_int__ok,?_⟩
 refine List.forall_mem_cons.2 ⟨row_math_bits_Len32_ok,?_⟩
 refine List.forall_mem_cons.2 ⟨row_math_bits_Len64_ok,?_⟩
 refine List.forall_mem_cons.2 ⟨row_slices_siftDownOrdered_int__ok,?_⟩
 refine List.forall_mem_cons.2 ⟨row_slices_nextPowerOfTwo_ok,?_⟩
 refine List.forall_mem_cons.2 ⟨row_slices_xorshift_Next_ok,?_⟩
 refine List.forall_mem_cons.2 ⟨row_slices_medianAdjacentOrdered_int__ok,?_⟩
 refine List.forall_mem_cons.2 ⟨row_slices_medianOrdered_int__ok,?_⟩
 refine List.forall_mem_cons.2 ⟨row_cmp_isNaN_int__ok,?_⟩
 refine List.forall_mem_cons.2 ⟨row_slices_order2Ordered_int__ok,?_⟩
 exact fun x hx=>by cases hx
end Go.Proofs.Ytpnjahijpdfcgaa
end
section
namespace Go.Proofs.Ytpnjahijpdfcgaa
open Go Go.Tum Go.Tum.Base
set_option maxRecDepth 4000
theorem may_tr (c:Int):Tr Try.prog 50 [.int .i64 c] [] (fun v K=>v=.bool (decide (0≤c∧c<4))∧K=[]):=by
 refine Tr.of row_class_may_ok rfl ?_
 repeat' (first|refine qN ?_|refine dN ?_|refine dR ?_|refine d0 ?_|refine rT ?_|refine aI (hn:=?_)|refine sP 5 (fun h=>?_) (fun h=>?_)|refine qR ?_|refine qS ?_|exact ⟨rfl,rfl⟩|fail)
 all_goals (refine ⟨?_,rfl⟩; first | rfl|exact congrArg (Value.int _) (by (repeat' split) <;> omega)|exact congrArg Value.bool (by (repeat' split) <;> (rw [Bool.eq_iff_iff]; simp; try omega))|exact VT2 (by (repeat' split) <;> omega) (by (repeat' split) <;> first | rfl | omega | (rw [Bool.eq_iff_iff]; simp; try omega)))
theorem Size_tr (c:Int):Tr Try.prog 45 [.int .i64 c] [] (fun v K=>v=.int .i64 (sizeC c)∧K=[]):=by
 refine Tr.of row_class_Size_ok rfl ?_
 repeat' (first|refine qN ?_|refine dN ?_|refine dR ?_|refine d0 ?_|refine rT ?_|refine qT ?_|refine qU ?_|refine qL ?_|refine qK ?_|refine iF (fun h=>?_) (fun h=>?_)|refine aI (hn:=?_)|refine qR ?_|refine qS ?_|exact ⟨rfl,rfl⟩|fail)
 first|refine L_rs ?_|refine L_reg ?_ | skip
 refine cP [] (may_tr c) ?_
 repeat' (first|refine qN ?_|refine dN ?_|refine dR ?_|refine d0 ?_|refine rT ?_|refine qT ?_|refine qU ?_|refine qL ?_|refine qK ?_|refine iF (fun h=>?_) (fun h=>?_)|refine aI (hn:=?_)|refine qR ?_|refine qS ?_|exact ⟨rfl,rfl⟩|fail)
 ·refine ⟨congrArg (Value.int _) ?_,rfl⟩
  unfold sizeC; (repeat' split) <;> omega
 ·have hc:c=0∨c=1∨c=2∨c=3:=by omega
  rcases hc with rfl | rfl | rfl | rfl <;>
  ·first|refine L_rs ?_|refine L_reg ?_ | skip
   refine S_Q [] rfl rfl (QY.shift rfl rfl (by decide) rfl) ?_
   repeat' (first|refine qN ?_|refine dN ?_|refine dR ?_|refine d0 ?_|refine rT ?_|refine qT ?_|refine qU ?_|refine qL ?_|refine qK ?_|refine iF (fun h=>?_) (fun h=>?_)|refine aI (hn:=?_)|refine qR ?_|refine qS ?_|exact ⟨rfl,rfl⟩|fail)
theorem Room_tr (c:Int):Tr Try.prog 37 [.int .i64 c] [] (fun v K=>v=.int .i64 (max (sizeC c-8) 0)∧K=[]):=by
 have h1:sizeC c≤128∧0≤sizeC c:=by unfold sizeC; (repeat' split) <;> omega
 refine Tr.of row_class_Room_ok rfl ?_
 repeat' (first|refine qN ?_|refine dN ?_|refine dR ?_|refine d0 ?_|refine rT ?_|refine aS ?_|refine aI (hn:=?_)|refine qR ?_|refine qS ?_|exact ⟨rfl,rfl⟩|fail)
 first|refine L_rs ?_|refine L_reg ?_ | skip
 refine cP [] (Size_tr c) ?_
 repeat' (first|refine qN ?_|refine dN ?_|refine dR ?_|refine d0 ?_|refine rT ?_|refine aS ?_|refine aI (hn:=?_)|refine qR ?_|refine qS ?_|exact ⟨rfl,rfl⟩|fail)
theorem Room3_tr:Tr Try.prog 37 [.int .i64 3] [] (fun v K=>v=.int .i64 120∧K=[]):=Room_tr 3
theorem Pages_tr (n:Int):Tr Try.prog 19 [.int .i64 n] [] (fun v K=>v=.tuple ⟨[.int .i64 (pagesC n),.bool (greatC n)]⟩∧K=[]):=by
 refine Tr.of row_class_Pages_ok rfl ?_
 repeat' (first|refine qN ?_|refine dN ?_|refine dR ?_|refine d0 ?_|refine rT ?_|refine qT ?_|refine qU ?_|refine qL ?_|refine qK ?_|refine iF (fun h=>?_) (fun h=>?_)|refine aA ?_|refine aS ?_|refine aI (hn:=?_)|refine aD ?_|refine sP 7 (fun h=>?_) (fun h=>?_)|refine qR ?_|refine qS ?_|exact ⟨rfl,rfl⟩|fail)
 first|refine L_rs ?_|refine L_reg ?_ | skip
 refine cP [] (Room3_tr) ?_
 repeat' (first|refine qN ?_|refine dN ?_|refine dR ?_|refine d0 ?_|refine rT ?_|refine qT ?_|refine qU ?_|refine qL ?_|refine qK ?_|refine iF (fun h=>?_) (fun h=>?_)|refine aA ?_|refine aS ?_|refine aI (hn:=?_)|refine aD ?_|refine sP 7 (fun h=>?_) (fun h=>?_)|refine qR ?_|refine qS ?_|exact ⟨rfl,rfl⟩|fail)
 all_goals refine ⟨VT2 ?_ ?_,rfl⟩
 all_goals first | (unfold pagesC; (repeat' split) <;> omega) | (unfold greatC; first | (symm; rw [decide_eq_true_eq]; omega) | (symm; rw [decide_eq_false_iff_not]; omega))
theorem mix_tr (x:BitVec 64):Tr Try.prog 18 [.int .u64 (x.toNat:Int)] [] (fun v K=>v=.int .u64 ((mixW x).toNat:Int)∧K=[]):=by
 refine Tr.of row_link_mix_ok rfl ?_
 repeat' (first|refine qN ?_|refine dN ?_|refine dR ?_|refine d0 ?_|refine rT ?_|refine aI (hn:=?_)|refine aM ?_|refine qR ?_|refine qS ?_|exact ⟨rfl,rfl⟩|fail)
 first|refine L_rs ?_|refine L_reg ?_ | skip
 refine S_Q [] rfl rfl (QY.shrW (n:=30) rfl rfl) ?_
 first|refine L_rs ?_|refine L_reg ?_ | skip
 refine S_Q [] rfl rfl (QY.xorW rfl rfl) ?_
 first|refine L_rs ?_|refine L_reg ?_ | skip
 refine S_Q [] rfl rfl (QY.mulW (b:=0xBF58476D1CE4E5B9#64) rfl rfl) ?_
 repeat' (first|refine qN ?_|refine dN ?_|refine dR ?_|refine d0 ?_|refine rT ?_|refine aI (hn:=?_)|refine aM ?_|refine qR ?_|refine qS ?_|exact ⟨rfl,rfl⟩|fail)
 first|refine L_rs ?_|refine L_reg ?_ | skip
 refine S_Q [] rfl rfl (QY.shrW (n:=27) rfl rfl) ?_
 first|refine L_rs ?_|refine L_reg ?_ | skip
 refine S_Q [] rfl rfl (QY.xorW rfl rfl) ?_
 first|refine L_rs ?_|refine L_reg ?_ | skip
 refine S_Q [] rfl rfl (QY.mulW (b:=0x94D049BB133111EB#64) rfl rfl) ?_
 repeat' (first|refine qN ?_|refine dN ?_|refine dR ?_|refine d0 ?_|refine rT ?_|refine aI (hn:=?_)|refine aM ?_|refine qR ?_|refine qS ?_|exact ⟨rfl,rfl⟩|fail)
 first|refine L_rs ?_|refine L_reg ?_ | skip
 refine S_Q [] rfl rfl (QY.shrW (n:=31) rfl rfl) ?_
 first|refine L_rs ?_|refine L_reg ?_ | skip
 refine S_Q [] rfl rfl (QY.xorW rfl rfl) ?_
 repeat' (first|refine qN ?_|refine dN ?_|refine dR ?_|refine d0 ?_|refine rT ?_|refine aI (hn:=?_)|refine aM ?_|refine qR ?_|refine qS ?_|exact ⟨rfl,rfl⟩|fail)
theorem linkNew_tr (x:BitVec 64):Tr Try.prog 5 [.int .u64 (x.toNat:Int)] [] (fun v K=>v=.agg ⟨[.int .u64 ((keyW x).toNat:Int)]⟩∧K=[]):=by
 refine Tr.of row_link_New_ok rfl ?_
 repeat' (first|refine qN ?_|refine dN ?_|refine dR ?_|refine d0 ?_|refine rT ?_|refine aA ?_|refine aI (hn:=?_)|refine qR ?_|refine qS ?_|exact ⟨rfl,rfl⟩|fail)
 first|refine L_rs ?_|refine L_reg ?_ | skip
 refine S_Q [] rfl rfl (QY.addW (b:=0x9E3779B97F4A7C15#64) rfl rfl) ?_
 first|refine L_rs ?_|refine L_reg ?_ | skip
 refine cP [] (mix_tr (x+0x9E3779B97F4A7C15#64)) ?_
 repeat' (first|refine qN ?_|refine dN ?_|refine dR ?_|refine d0 ?_|refine rT ?_|refine aA ?_|refine aI (hn:=?_)|refine qR ?_|refine qS ?_|exact ⟨rfl,rfl⟩|fail)
theorem Canary_tr (k:BitVec 64) (a:Int):Tr Try.prog 38 [.agg ⟨[.int .u64 (k.toNat:Int)]⟩,.int .i64 a] [] (fun v K=>v=.int .u64 ((canW k a).toNat:Int)∧K=[]):=by
 refine Tr.of row_link_Code_Canary_ok rfl ?_
 repeat' (first|refine qN ?_|refine dN ?_|refine dR ?_|refine d0 ?_|refine rT ?_|refine aI (hn:=?_)|refine qR ?_|refine qS ?_|exact ⟨rfl,rfl⟩|fail)
 first|refine L_rs ?_|refine L_reg ?_ | skip
 refine S_Q [] rfl rfl (QY.cvIW rfl) ?_
 first|refine L_rs ?_|refine L_reg ?_ | skip
 refine S_Q [] rfl rfl (QY.xorW rfl rfl) ?_
 first|refine L_rs ?_|refine L_reg ?_ | skip
 refine cP [] (mix_tr (k ^^^ BitVec.ofInt 64 a)) ?_
 repeat' (first|refine qN ?_|refine dN ?_|refine dR ?_|refine d0 ?_|refine rT ?_|refine aI (hn:=?_)|refine qR ?_|refine qS ?_|exact ⟨rfl,rfl⟩|fail)
abbrev slB (b n:Nat):Value:=.slice (some ⟨b,0,none⟩) n n
abbrev ptr (b:Nat):Value:=.pointer (some ⟨b,0,none⟩)
def BL (bs:Bytes):LB:=.gro 1 (rowsC byteC bs)
def AL (bs:Bytes):LH:=[.cells 0 [slB 1 bs.length],BL bs]
set_option maxRecDepth 4000 in
theorem arenaNew_tr (p:Int) (n:Nat) (hn:256*min (max p 0) 256=n):Tr Try.prog 4 [.int .i64 p] [] (fun v K=>v=ptr 0∧K=AL (List.replicate n 0)):=by
 refine Tr.of row_arena_New_ok rfl ?_
 repeat' (first|refine qN ?_|refine dN ?_|refine dR ?_|refine d0 ?_|refine rT ?_|refine S_Q [] rfl rfl (QY.mul rfl rfl hn (by omega) (by omega)) ?_|refine aI (hn:=?_)|refine aM ?_|refine qR ?_|refine qS ?_|exact ⟨rfl,rfl⟩|fail)
 first|refine L_rs ?_|refine L_reg ?_ | skip
 refine eE rfl rfl (EW.mk (sz:=1) (bytes:=1) (k:=n) (zs:=byteC 0) rfl (by kernel_rfl) rfl rfl (by omega) (by omega)) ?_
 conv=>whnf
 repeat' (first|refine qN ?_|refine dN ?_|refine dR ?_|refine d0 ?_|refine rT ?_|refine aI (hn:=?_)|refine aM ?_|refine qR ?_|refine qS ?_|exact ⟨rfl,rfl⟩|fail)
 refine L_ret (RetQ.pick [1,0] rfl rfl rfl rfl ⟨rfl,?_⟩)
 rw [repC_rows (0:BitVec 8),AL,BL,List.length_replicate]
 rfl
theorem arenaLen_tr (bs:Bytes):Tr Try.prog 20 [ptr 0] (AL bs) (fun v K=>v=.int .i64 bs.length∧K=AL bs):=by
 refine Tr.of row_arena_Arena_Len_ok rfl ?_
 repeat' (first|refine qN ?_|refine dN ?_|refine dR ?_|refine d0 ?_|refine rT ?_|refine qT ?_|refine qU ?_|refine qL ?_|refine qK ?_|refine iF (fun h=>?_) (fun h=>?_)|refine aI (hn:=?_)|refine qR ?_|refine qS ?_|exact ⟨rfl,rfl⟩|fail)
theorem arenaIn_tr (bs:Bytes) (hb:bs.length≤65536) (a k:Int):Tr Try.prog 32 [ptr 0,.int .i64 a,.int .i64 k] (AL bs) (fun v K=>v=.int .i64 (errIn bs.length a k)∧K=AL bs):=by
 refine Tr.of row_arena_Arena_in_ok rfl ?_
 repeat' (first|refine qN ?_|refine dN ?_|refine dR ?_|refine d0 ?_|refine qB ?_|refine rT ?_|refine qT ?_|refine qU ?_|refine qL ?_|refine qK ?_|refine iF (fun h=>?_) (fun h=>?_)|refine aS ?_|refine aI (hn:=?_)|refine sP 13 (fun h=>?_) (fun h=>?_)|refine sP 17 (fun h=>?_) (fun h=>?_)|refine sP 26 (fun h=>?_) (fun h=>?_)|refine qR ?_|refine qS ?_|exact ⟨rfl,rfl⟩|fail)
 all_goals (refine ⟨congrArg (Value.int _) ?_,rfl⟩; unfold errIn; (repeat' split) <;> omega)
theorem bytesClone_tr (ys:Bytes) (i m c:Nat) (h:i+m≤ys.length) (hb:ys.length≤65536):Tr Try.prog 36 [.slice (some ⟨0,i*1,none⟩) m c] [BL ys] (fun v K=>v=slB 1 m∧K=[BL ys,BL (partB ys i m)]):=by
 refine Tr.of row_bytes_Clone_ok rfl ?_
 repeat' (first|refine qN ?_|refine dN ?_|refine dR ?_|refine d0 ?_|refine rT ?_|refine qT ?_|refine qU ?_|refine qL ?_|refine qK ?_|refine iF (fun h=>?_) (fun h=>?_)|refine aI (hn:=?_)|refine qR ?_|refine qS ?_|exact ⟨rfl,rfl⟩|fail)
 rcases Nat.eq_zero_or_pos m with rfl | hm
 ·refine S_Q2 [] rfl rfl (QY.nilS2 rfl (by kernel_rfl) rfl) ?_ ?_
  ·refine S_done [] rfl (Nx.goL (L_true rfl (L_rs (S_done [] rfl (Nx.goL ?_)))))
   refine LWp.nilE 2 1 rfl ?_
   exact L_ret (RetQ.pick [0,1] rfl rfl rfl rfl ⟨rfl,rfl⟩)
  ·repeat' (first|refine qN ?_|refine dN ?_|refine dR ?_|refine d0 ?_|refine rT ?_|refine qT ?_|refine qU ?_|refine qL ?_|refine qK ?_|refine iF (fun h=>?_) (fun h=>?_)|refine aI (hn:=?_)|refine qR ?_|refine qS ?_|exact ⟨rfl,rfl⟩|fail)
   refine S_wk [] rfl (wk_gro0 (b:=1) 1 rfl) ?_
   first|refine L_rs ?_|refine L_reg ?_ | skip
   refine eE rfl rfl (EW.appRS (bytes:=1) (xs:=[]) byteC_ok rfl (by kernel_rfl) rfl rfl rfl rfl rfl rfl h (by decide) (by simp)) ?_
   conv=>whnf
   repeat' (first|refine qN ?_|refine dN ?_|refine dR ?_|refine d0 ?_|refine rT ?_|refine qT ?_|refine qU ?_|refine qL ?_|refine qK ?_|refine iF (fun h=>?_) (fun h=>?_)|refine aI (hn:=?_)|refine qR ?_|refine qS ?_|exact ⟨rfl,rfl⟩|fail)
   exact L_ret (RetQ.pick [0,2] rfl rfl rfl rfl ⟨rfl,rfl⟩)
 ·refine S_Q [] rfl rfl (QY.nilS rfl (by kernel_rfl) rfl hm) ?_
  repeat' (first|refine qN ?_|refine dN ?_|refine dR ?_|refine d0 ?_|refine rT ?_|refine qT ?_|refine qU ?_|refine qL ?_|refine qK ?_|refine iF (fun h=>?_) (fun h=>?_)|refine aI (hn:=?_)|refine qR ?_|refine qS ?_|exact ⟨rfl,rfl⟩|fail)
  refine S_wk [] rfl (wk_gro0 (b:=1) 1 rfl) ?_
  first|refine L_rs ?_|refine L_reg ?_ | skip
  refine eE rfl rfl (EW.appRS (bytes:=1) (xs:=[]) byteC_ok rfl (by kernel_rfl) rfl rfl rfl rfl rfl rfl h (by decide) (by simp; omega)) ?_
  conv=>whnf
  repeat' (first|refine qN ?_|refine dN ?_|refine dR ?_|refine d0 ?_|refine rT ?_|refine qT ?_|refine qU ?_|refine qL ?_|refine qK ?_|refine iF (fun h=>?_) (fun h=>?_)|refine aI (hn:=?_)|refine qR ?_|refine qS ?_|exact ⟨rfl,rfl⟩|fail)
  exact L_ret (RetQ.pick [0,2] rfl rfl rfl rfl ⟨by show Value.slice _ (0+m) (0+m)=_; rw [Nat.zero_add]; rfl,rfl⟩)
theorem arenaLoad_ok (bs:Bytes) (hb:bs.length≤65536) (i m:Nat) (h:i+m≤bs.length):Tr Try.prog 15 [ptr 0,.int .i64 i,.int .i64 m] (AL bs) (fun v K=>v=.tuple ⟨[slB 2 m,.int .i64 0]⟩∧K=AL bs++[BL (partB bs i m)]):=by
 have hI:=arenaIn_tr bs hb i m
 rw [errIn_ok h] at hI
 refine Tr.of row_arena_Arena_Load_ok rfl ?_
 repeat' (first|refine qN ?_|refine dN ?_|refine dR ?_|refine d0 ?_|refine rT ?_|refine qT ?_|refine qU ?_|refine qL ?_|refine qK ?_|refine iF (fun h=>?_) (fun h=>?_)|refine aA ?_|refine aI (hn:=?_)|refine qR ?_|refine qS ?_|exact ⟨rfl,rfl⟩|fail)
 first|refine L_rs ?_|refine L_reg ?_ | skip
 refine cP [0,1] (hI) ?_
 repeat' (first|refine qN ?_|refine dN ?_|refine dR ?_|refine d0 ?_|refine rT ?_|refine qT ?_|refine qU ?_|refine qL ?_|refine qK ?_|refine iF (fun h=>?_) (fun h=>?_)|refine aA ?_|refine aI (hn:=?_)|refine qR ?_|refine qS ?_|exact ⟨rfl,rfl⟩|fail)
 refine S_Q [] rfl rfl (QY.slc0 (b:=1) (lo':=i) (hi':=i+m) rfl rfl rfl (by omega) (by omega)) ?_
 have hC:=bytesClone_tr bs i (i+m-i) (bs.length-i) (by omega) hb
 first|refine L_rs ?_|refine L_reg ?_ | skip
 refine cF [1] (hC) ?_
 conv=>whnf
 repeat' (first|refine qN ?_|refine dN ?_|refine dR ?_|refine d0 ?_|refine rT ?_|refine qT ?_|refine qU ?_|refine qL ?_|refine qK ?_|refine iF (fun h=>?_) (fun h=>?_)|refine aA ?_|refine aI (hn:=?_)|refine qR ?_|refine qS ?_|exact ⟨rfl,rfl⟩|fail)
 rw [show i+m-i=m by omega]
 refine L_ret (RetQ.pick [0,1,2] rfl rfl rfl rfl ⟨rfl,rfl⟩)
theorem AL_over {bs:Bytes} {i:Nat} {ys:Bytes} (h:i+ys.length≤bs.length):AL (overB bs i ys)=[.cells 0 [slB 1 bs.length],BL (overB bs i ys)]:=by rw [AL,overB_length h]
theorem arenaFill_ok (bs:Bytes) (hb:bs.length≤65536) (i m:Nat) (c:BitVec 8) (h:i+m≤bs.length):Tr Try.prog 22 [ptr 0,.int .i64 i,.int .i64 m,.int .u8 (c.toNat:Int)] (AL bs) (fun v K=>v=.int .i64 0∧K=AL (overB bs i (List.replicate m c))):=by
 have hI:=arenaIn_tr bs hb i m
 rw [errIn_ok h] at hI
 rw [AL_over (by rw [List.length_replicate]; exact h)]
 refine Tr.of row_arena_Arena_Fill_ok rfl ?_
 refine L_rs (S_done [] rfl (Nx.goL (L_seq ?_)))
 first|refine L_rs ?_|refine L_reg ?_ | skip
 refine cP [0,1] (hI) ?_
 refine S_done [] rfl (Nx.goL (L_rs (S_done [] rfl (Nx.goL (L_false rfl (L_skip (Nx.goL ?_)))))))
 refine L_cut (fun l L=>l=[]∧L=[.cells 0 [slB 1 bs.length],BL (overB bs i (List.replicate m c))]) ?_ ?_
 ·refine L_rs (S_done [] rfl (Nx.pick [0,1,2,3,10] [0,1] rfl rfl rfl ?_))
  refine L_block (L_loop (fun r l L=>∃ j:Nat,r=m-j∧j≤m∧l=[(0,ptr 0),(1,.int .i64 i),(2,.int .i64 m),(3,.int .u8 (c.toNat:Int)),(10,.int .i64 ((i+j:Nat):Int))]∧L=[.cells 0 [slB 1 bs.length],BL (overB bs i (List.replicate j c))]) m ⟨0,rfl,by omega,rfl,by rw [List.replicate_zero,overB_nil]; rfl⟩ ?_)
  rintro r _ _ ⟨j,rfl,hj,rfl,rfl⟩
  refine L_seq ?_
  repeat' (first|refine qN ?_|refine dN ?_|refine dR ?_|refine d0 ?_|refine qB ?_|refine rT ?_|refine qT ?_|refine qU ?_|refine qL ?_|refine qK ?_|refine qF ?_|refine qE ?_|refine iF (fun h=>?_) (fun h=>?_)|refine aX ?_|refine aA ?_|refine aI (hn:=?_)|refine qR ?_|refine qS ?_|exact ⟨rfl,rfl⟩|fail)
  ·have hs:=overB_snoc (bs:=bs) (i:=i) (ys:=List.replicate j c) c (by rw [List.length_replicate]; omega)
   rw [List.length_replicate,← List.replicate_succ'] at hs
   first|refine L_rs ?_|refine L_reg ?_ | skip
   refine eE rfl rfl (EW.stY (k:=i+j) rfl rfl rfl (by rw [overB_length (by rw [List.length_replicate]; omega)]; omega)) ?_
   conv=>whnf
   repeat' (first|refine qN ?_|refine dN ?_|refine dR ?_|refine d0 ?_|refine qB ?_|refine rT ?_|refine qT ?_|refine qU ?_|refine qL ?_|refine qK ?_|refine qF ?_|refine qE ?_|refine iF (fun h=>?_) (fun h=>?_)|refine aX ?_|refine aA ?_|refine aI (hn:=?_)|refine qR ?_|refine qS ?_|exact ⟨rfl,rfl⟩|fail)
   exact Nx.pick [0,1,2,3,10] [0,1] rfl rfl rfl ⟨m-(j+1),by omega,j+1,rfl,by omega,rfl,by rw [← hs]; rfl⟩
  ·obtain rfl:j=m:=by omega
   exact Nx.pick [] [0,1] rfl rfl rfl ⟨rfl,rfl⟩
 rintro _ _ ⟨rfl,rfl⟩
 repeat' (first|refine qN ?_|refine dN ?_|refine dR ?_|refine d0 ?_|refine qB ?_|refine rT ?_|refine qT ?_|refine qU ?_|refine qL ?_|refine qK ?_|refine qF ?_|refine qE ?_|refine iF (fun h=>?_) (fun h=>?_)|refine aX ?_|refine aA ?_|refine aI (hn:=?_)|refine qR ?_|refine qS ?_|exact ⟨rfl,rfl⟩|fail)
theorem arenaword_tr (bs:Bytes) (hb:bs.length≤65536) (a:Int):Tr Try.prog 39 [ptr 0,.int .i64 a] (AL bs) (fun v K=>v=.int .i64 (errW bs.length a)∧K=AL bs):=by
 rw [errW_in]
 have hI:=arenaIn_tr bs hb a 8
 by_cases h0:errIn bs.length a 8=0
 ·obtain ⟨i,m,rfl,hm,hle⟩:=errIn_nat h0
  rw [h0] at hI ⊢
  refine Tr.of row_arena_Arena_word_ok rfl ?_
  repeat' (first|refine qN ?_|refine dN ?_|refine dR ?_|refine d0 ?_|refine rT ?_|refine qT ?_|refine qU ?_|refine qL ?_|refine qK ?_|refine iF (fun h=>?_) (fun h=>?_)|refine aI (hn:=?_)|refine aR ?_|refine qR ?_|refine qS ?_|exact ⟨rfl,rfl⟩|fail)
  first|refine L_rs ?_|refine L_reg ?_ | skip
  refine cP [0,1] (hI) ?_
  repeat' (first|refine qN ?_|refine dN ?_|refine dR ?_|refine d0 ?_|refine rT ?_|refine qT ?_|refine qU ?_|refine qL ?_|refine qK ?_|refine iF (fun h=>?_) (fun h=>?_)|refine aI (hn:=?_)|refine aR ?_|refine qR ?_|refine qS ?_|exact ⟨rfl,rfl⟩|fail)
  ·refine ⟨congrArg (Value.int _) ?_,rfl⟩
   rw [if_neg (by decide),if_pos (by omega)]
  ·refine ⟨congrArg (Value.int _) ?_,rfl⟩
   rw [if_neg (by decide),if_neg (by omega)]
 ·refine Tr.of row_arena_Arena_word_ok rfl ?_
  repeat' (first|refine qN ?_|refine dN ?_|refine dR ?_|refine d0 ?_|refine rT ?_|refine qT ?_|refine qU ?_|refine qL ?_|refine qK ?_|refine iF (fun h=>?_) (fun h=>?_)|refine aI (hn:=?_)|refine aR ?_|refine qR ?_|refine qS ?_|exact ⟨rfl,rfl⟩|fail)
  first|refine L_rs ?_|refine L_reg ?_ | skip
  refine cP [0,1] (hI) ?_
  repeat' (first|refine qN ?_|refine dN ?_|refine dR ?_|refine d0 ?_|refine rT ?_|refine qT ?_|refine qU ?_|refine qL ?_|refine qK ?_|refine iF (fun h=>?_) (fun h=>?_)|refine aI (hn:=?_)|refine aR ?_|refine qR ?_|refine qS ?_|exact ⟨rfl,rfl⟩|fail)
  ·refine ⟨congrArg (Value.int _) ?_,rfl⟩
   rw [if_pos h0,errIn] at *
   split at h0
   ·rw [if_pos ‹_›]
   ·exact absurd rfl h0
  all_goals contradiction
theorem numGet_tr (ys:Bytes) (i m c:Nat) (h:i+m≤ys.length) (hb:ys.length≤65536):Tr Try.prog 46 [.slice (some ⟨0,i*1,none⟩) m c] [BL ys] (fun v K=>v=.int .u64 ((getW (partB ys i m)).toNat:Int)∧K=[BL ys]):=by
 refine Tr.of row_num_Get_ok rfl ?_
 refine L_rs (S_done [] rfl (Nx.goL (L_rs (S_done [] rfl (Nx.goL ?_)))))
 have hlen:=partB_length h
 refine L_cut (fun l L=>l=[(3,.int .u64 ((getW (partB ys i m)).toNat:Int))]∧L=[BL ys]) ?_ ?_
 ·refine L_rs (S_done [] rfl (Nx.pick [0,3,7,8] [0] rfl rfl rfl ?_))
  refine L_block (L_loop (fun r l L=>∃ k:Nat,r=min m 8-k∧k≤min m 8∧l=[(0,.slice (some ⟨0,i*1,none⟩) m c),(3,.int .u64 ((getF (partB ys i m) k).toNat:Int)),(7,.int .i64 (min m 8:Nat)),(8,.int .i64 k)]∧L=[BL ys]) (min m 8) ⟨0,rfl,by omega,?_,rfl⟩ ?_)
  ·rw [show ((min m 8:Nat):Int)=imm false m 8 by show _=min (m:Int) 8; omega]; rfl
  rintro r _ _ ⟨k,rfl,hk,rfl,rfl⟩
  first|refine L_seq (L_rs (S_done [] rfl (Nx.goL (iF (fun h=>L_skip (Nx.goL ?_)) (fun h=>L_exit ?_)))))|refine L_rs (S_done [] rfl (Nx.goL (L_seq (iF (fun h=>L_skip (Nx.goL ?_)) (fun h=>L_exit ?_)))))
  ·have hk':k<m:=by omega
   obtain ⟨x,hx⟩:∃ x,ys[i+k]?=some x:=⟨_,List.getElem?_eq_getElem (by omega)⟩
   have hg:(partB ys i m).getD k 0=x:=by
    rw [List.getD_eq_getElem?_getD,partB,List.getElem?_take,if_pos hk',List.getElem?_drop,hx]; rfl
   repeat' (first|refine qN ?_|refine dN ?_|refine dR ?_|refine d0 ?_|refine qB ?_|refine rT ?_|refine qT ?_|refine qU ?_|refine qL ?_|refine qK ?_|refine qF ?_|refine qE ?_|refine iF (fun h=>?_) (fun h=>?_)|refine aX ?_|refine aA ?_|refine aI (hn:=?_)|refine aM ?_|refine qR ?_|refine qS ?_|exact ⟨rfl,rfl⟩|fail)
   first|refine L_rs ?_|refine L_reg ?_ | skip
   refine S_Q [] rfl rfl (QY.idxO rfl rfl hk') ?_
   first|refine L_rs ?_|refine L_reg ?_ | skip
   refine S_Q [] rfl rfl (QY.ldYo rfl (by omega) rfl hx) ?_
   first|refine L_rs ?_|refine L_reg ?_ | skip
   refine S_Q [] rfl rfl (QY.cvBW rfl) ?_
   first|refine L_rs ?_|refine L_reg ?_ | skip
   refine S_Q [] rfl rfl (QY.mul (c:=((8*k:Nat):Int)) rfl rfl (by omega) (by omega) (by omega)) ?_
   first|refine L_rs ?_|refine L_reg ?_ | skip
   refine S_Q [] rfl rfl (QY.shlW (n:=8*k) rfl rfl) ?_
   first|refine L_rs ?_|refine L_reg ?_ | skip
   refine S_Q [] rfl rfl (QY.orW rfl rfl) ?_
   repeat' (first|refine qN ?_|refine dN ?_|refine dR ?_|refine d0 ?_|refine qB ?_|refine rT ?_|refine qT ?_|refine qU ?_|refine qL ?_|refine qK ?_|refine qF ?_|refine qE ?_|refine iF (fun h=>?_) (fun h=>?_)|refine aX ?_|refine aA ?_|refine aI (hn:=?_)|refine aM ?_|refine qR ?_|refine qS ?_|exact ⟨rfl,rfl⟩|fail)
   exact Nx.pick [0,3,7,8] [0] rfl rfl rfl ⟨min m 8-(k+1),by omega,k+1,rfl,by omega,by rw [getF,hg]; rfl,rfl⟩
  ·obtain rfl:k=min m 8:=by omega
   exact Nx.pick [3] [0] rfl rfl rfl ⟨by rw [getW,hlen]; rfl,rfl⟩
 rintro _ _ ⟨rfl,rfl⟩
 repeat' (first|refine qN ?_|refine dN ?_|refine dR ?_|refine d0 ?_|refine qB ?_|refine rT ?_|refine qT ?_|refine qU ?_|refine qL ?_|refine qK ?_|refine qF ?_|refine qE ?_|refine iF (fun h=>?_) (fun h=>?_)|refine aX ?_|refine aA ?_|refine aI (hn:=?_)|refine aM ?_|refine qR ?_|refine qS ?_|exact ⟨rfl,rfl⟩|fail)
set_option maxRecDepth 4000 in
theorem numPut_tr (v:BitVec 64):Tr Try.prog 40 [.int .i64 8,.int .u64 (v.toNat:Int)] [] (fun u K=>u=slB 0 8∧K=[BL (putB v 8)]):=by
 refine Tr.of row_num_Put_ok rfl ?_
 repeat' (first|refine qN ?_|refine dN ?_|refine dR ?_|refine d0 ?_|refine qB ?_|refine rT ?_|refine qT ?_|refine qU ?_|refine qL ?_|refine qK ?_|refine qF ?_|refine qE ?_|refine iF (fun h=>?_) (fun h=>?_)|refine aX ?_|refine aA ?_|refine aI (hn:=?_)|refine aM ?_|refine sP 9 (fun h=>?_) (fun h=>?_)|refine qR ?_|refine qS ?_|exact ⟨rfl,rfl⟩|fail)
 first|refine L_rs ?_|refine L_reg ?_ | skip
 refine eE rfl rfl (EW.mk (sz:=1) (bytes:=1) (k:=8) (zs:=byteC 0) rfl (by kernel_rfl) rfl rfl (by omega) (by omega)) ?_
 conv=>whnf
 refine S_done [] rfl (Nx.goL ?_)
 refine L_cut (fun l L=>l=[(5,slB 0 8)]∧L=[BL (putB v 8)]) ?_ ?_
 ·refine L_rs (S_done [] rfl (Nx.pick [1,5,16,17] [0] rfl rfl rfl ?_))
  refine L_block (L_loop (fun r l L=>∃ k:Nat,r=8-k∧k≤8∧l=[(1,.int .u64 (v.toNat:Int)),(5,slB 0 8),(16,.int .i64 8),(17,.int .i64 k)]∧L=[BL (putB v k++List.replicate (8-k) 0)]) 8 ⟨0,rfl,by omega,rfl,by rw [repC_rows (0:BitVec 8)]; rfl⟩ ?_)
  rintro r _ _ ⟨k,rfl,hk,rfl,rfl⟩
  have hl:=putB_length v k
  first|refine L_seq (L_rs (S_done [] rfl (Nx.goL (iF (fun h=>L_skip (Nx.goL ?_)) (fun h=>L_exit ?_)))))|refine L_rs (S_done [] rfl (Nx.goL (L_seq (iF (fun h=>L_skip (Nx.goL ?_)) (fun h=>L_exit ?_)))))
  ·have hk8:k<8:=by omega
   repeat' (first|refine qN ?_|refine dN ?_|refine dR ?_|refine d0 ?_|refine qB ?_|refine rT ?_|refine qT ?_|refine qU ?_|refine qL ?_|refine qK ?_|refine qF ?_|refine qE ?_|refine iF (fun h=>?_) (fun h=>?_)|refine aX ?_|refine aA ?_|refine aI (hn:=?_)|refine aM ?_|refine sP 9 (fun h=>?_) (fun h=>?_)|refine qR ?_|refine qS ?_|exact ⟨rfl,rfl⟩|fail)
   first|refine L_rs ?_|refine L_reg ?_ | skip
   refine S_Q [] rfl rfl (QY.shrW (n:=8*k) rfl rfl) ?_
   first|refine L_rs ?_|refine L_reg ?_ | skip
   refine S_Q [] rfl rfl (QY.cvWB rfl) ?_
   first|refine L_rs ?_|refine L_reg ?_ | skip
   refine S_Q [] rfl rfl (QY.idxN rfl rfl hk8) ?_
   first|refine L_rs ?_|refine L_reg ?_ | skip
   refine eE rfl rfl (EW.stY (k:=k) rfl rfl rfl (by simp; omega)) ?_
   conv=>whnf
   repeat' (first|refine qN ?_|refine dN ?_|refine dR ?_|refine d0 ?_|refine qB ?_|refine rT ?_|refine qT ?_|refine qU ?_|refine qL ?_|refine qK ?_|refine qF ?_|refine qE ?_|refine iF (fun h=>?_) (fun h=>?_)|refine aX ?_|refine aA ?_|refine aI (hn:=?_)|refine aM ?_|refine sP 9 (fun h=>?_) (fun h=>?_)|refine qR ?_|refine qS ?_|exact ⟨rfl,rfl⟩|fail)
   refine Nx.pick [1,5,16,17] [0] rfl rfl rfl ⟨8-(k+1),by omega,k+1,rfl,by omega,rfl,?_⟩
   have e:(putB v k++List.replicate (8-k) 0).set k ((v >>> (8*k)).setWidth 8)=putB v (k+1)++List.replicate (8-(k+1)) 0:=by
    rw [List.set_append_right _ _ (by omega),hl,Nat.sub_self,show 8-k=(8-(k+1))+1 by omega,List.replicate_succ,List.set_cons_zero,putB,List.append_assoc]; rfl
   rw [← e]; rfl
  ·obtain rfl:k=8:=by omega
   exact Nx.pick [5] [0] rfl rfl rfl ⟨rfl,by rw [Nat.sub_self,List.replicate_zero,List.append_nil]; rfl⟩
 rintro _ _ ⟨rfl,rfl⟩
 repeat' (first|refine qN ?_|refine dN ?_|refine dR ?_|refine d0 ?_|refine qB ?_|refine rT ?_|refine qT ?_|refine qU ?_|refine qL ?_|refine qK ?_|refine qF ?_|refine qE ?_|refine iF (fun h=>?_) (fun h=>?_)|refine aX ?_|refine aA ?_|refine aI (hn:=?_)|refine aM ?_|refine sP 9 (fun h=>?_) (fun h=>?_)|refine qR ?_|refine qS ?_|exact ⟨rfl,rfl⟩|fail)
 exact L_ret (RetQ.pick [0] rfl rfl rfl rfl ⟨rfl,rfl⟩)
theorem arenaWord_ok (bs:Bytes) (hb:bs.length≤65536) (i:Nat) (h:i+8≤bs.length) (h8:i % 8=0):Tr Try.prog 41 [ptr 0,.int .i64 i] (AL bs) (fun v K=>v=.tuple ⟨[.int .u64 ((wordB bs i).toNat:Int),.int .i64 0]⟩∧K=AL bs):=by
 have hI:=arenaword_tr bs hb i
 rw [errW_ok h h8] at hI
 have hG:=numGet_tr bs i (i+8-i) (bs.length-i) (by omega) hb
 refine Tr.of row_arena_Arena_Word_ok rfl ?_
 repeat' (first|refine qN ?_|refine dN ?_|refine dR ?_|refine d0 ?_|refine rT ?_|refine qT ?_|refine qU ?_|refine qL ?_|refine qK ?_|refine iF (fun h=>?_) (fun h=>?_)|refine aA ?_|refine aI (hn:=?_)|refine qR ?_|refine qS ?_|exact ⟨rfl,rfl⟩|fail)
 first|refine L_rs ?_|refine L_reg ?_ | skip
 refine cP [0,1] (hI) ?_
 repeat' (first|refine qN ?_|refine dN ?_|refine dR ?_|refine d0 ?_|refine rT ?_|refine qT ?_|refine qU ?_|refine qL ?_|refine qK ?_|refine iF (fun h=>?_) (fun h=>?_)|refine aA ?_|refine aI (hn:=?_)|refine qR ?_|refine qS ?_|exact ⟨rfl,rfl⟩|fail)
 first|refine L_rs ?_|refine L_reg ?_ | skip
 refine S_Q [] rfl rfl (QY.slc0 (b:=1) (lo':=i) (hi':=i+8) rfl rfl rfl (by omega) (by omega)) ?_
 first|refine L_rs ?_|refine L_reg ?_ | skip
 refine cP [1] (hG) ?_
 repeat' (first|refine qN ?_|refine dN ?_|refine dR ?_|refine d0 ?_|refine rT ?_|refine qT ?_|refine qU ?_|refine qL ?_|refine qK ?_|refine iF (fun h=>?_) (fun h=>?_)|refine aA ?_|refine aI (hn:=?_)|refine qR ?_|refine qS ?_|exact ⟨rfl,rfl⟩|fail)
 refine ⟨?_,rfl⟩
 rw [show i+8-i=8 by omega]; rfl
theorem arenaSetWord_ok (bs:Bytes) (hb:bs.length≤65536) (i:Nat) (h:i+8≤bs.length) (h8:i % 8=0) (x:BitVec 64):Tr Try.prog 24 [ptr 0,.int .i64 i,.int .u64 (x.toNat:Int)] (AL bs) (fun v K=>v=.int .i64 0∧K=AL (overB bs i (putB x 8))):=by
 have hI:=arenaword_tr bs hb i
 rw [errW_ok h h8] at hI
 rw [AL_over (by rw [putB_length]; exact h)]
 refine Tr.of row_arena_Arena_SetWord_ok rfl ?_
 repeat' (first|refine qN ?_|refine dN ?_|refine dR ?_|refine d0 ?_|refine rT ?_|refine qT ?_|refine qU ?_|refine qL ?_|refine qK ?_|refine iF (fun h=>?_) (fun h=>?_)|refine aI (hn:=?_)|refine qR ?_|refine qS ?_|exact ⟨rfl,rfl⟩|fail)
 first|refine L_rs ?_|refine L_reg ?_ | skip
 refine cP [0,1] (hI) ?_
 repeat' (first|refine qN ?_|refine dN ?_|refine dR ?_|refine d0 ?_|refine rT ?_|refine qT ?_|refine qU ?_|refine qL ?_|refine qK ?_|refine iF (fun h=>?_) (fun h=>?_)|refine aI (hn:=?_)|refine qR ?_|refine qS ?_|exact ⟨rfl,rfl⟩|fail)
 first|refine L_rs ?_|refine L_reg ?_ | skip
 refine S_Q [] rfl rfl (QY.slc0 (b:=1) (lo':=i) (hi':=bs.length) rfl rfl rfl (by omega) (by omega)) ?_
 first|refine L_rs ?_|refine L_reg ?_ | skip
 refine cF [] (numPut_tr x) ?_
 conv=>whnf
 first|refine L_rs ?_|refine L_reg ?_ | skip
 refine eE rfl rfl (EW.copyg (i:=i) (j:=0) (xs:=bs) (ys:=putB x 8) byteC_ok rfl (by kernel_rfl) rfl rfl rfl rfl (by omega) (by rw [putB_length]; omega) (by decide)) ?_
 conv=>whnf
 repeat' (first|refine qN ?_|refine dN ?_|refine dR ?_|refine d0 ?_|refine rT ?_|refine qT ?_|refine qU ?_|refine qL ?_|refine qK ?_|refine iF (fun h=>?_) (fun h=>?_)|refine aI (hn:=?_)|refine qR ?_|refine qS ?_|exact ⟨rfl,rfl⟩|fail)
 rw [← overB_copy bs i (putB x 8) (sn:=8) (dn:=bs.length-i) (by rw [putB_length]) (by omega)]
 exact ⟨rfl,rfl⟩
end Go.Proofs.Ytpnjahijpdfcgaa
end
section
namespace Go.Tum.Base
open Go Go.Tum
abbrev Great:=IMap
def meetsG (G:Great) (page many:Int):Bool:=G.any fun x=>decide (page<x.1+pagesC x.2.1∧x.1<page+many)
def Small (G:Great) (N:Nat):Prop:=∀ x∈G,0≤x.1∧greatC x.2.1=true∧x.1+pagesC x.2.1≤N
theorem pagesC_bd (n:Int):0≤pagesC n∧pagesC n≤17:=by unfold pagesC; split <;> omega
end Go.Tum.Base
namespace Go.Proofs.Ytpnjahijpdfcgaa
open Go Go.Tum Go.Tum.Base
set_option maxRecDepth 4000
def SetL (key:BitVec 64) (bs:Bytes) (G:Great) (c:Nat):LH:=[.cells 0 [ptr 1,.int .u64 (key.toNat:Int),.map (some 3)],.cells 0 [slB 2 bs.length],BL bs,.imap G c]
theorem largeNew_tr (bs:Bytes) (key:BitVec 64):TrK Try.prog [] [0,1] 6 [ptr 0,.agg ⟨[.int .u64 (key.toNat:Int)]⟩] (AL bs) (fun v K=>v=ptr 2∧K=AL bs++[.cells 0 [ptr 0,.int .u64 (key.toNat:Int),.map (some 3)],.imap [] 0]):=by
 refine Tr.of row_large_New_ok rfl ?_
 repeat' (first|refine qN ?_|refine dN ?_|refine dR ?_|refine d0 ?_|refine rT ?_|refine qT ?_|refine qU ?_|refine qL ?_|refine qK ?_|refine iF (fun h=>?_) (fun h=>?_)|refine aI (hn:=?_)|refine qR ?_|refine qS ?_|exact ⟨rfl,rfl⟩|fail)
 first|refine L_rs ?_|refine L_reg ?_ | skip
 refine eE rfl rfl (EW.imake rfl) ?_
 conv=>whnf
 repeat' (first|refine qN ?_|refine dN ?_|refine dR ?_|refine d0 ?_|refine rT ?_|refine qT ?_|refine qU ?_|refine qL ?_|refine qK ?_|refine iF (fun h=>?_) (fun h=>?_)|refine aI (hn:=?_)|refine qR ?_|refine qS ?_|exact ⟨rfl,rfl⟩|fail)
 exact L_ret (RetQ.pick [0,1,4,3] rfl rfl rfl rfl ⟨rfl,rfl⟩)
theorem run_tr (n:Int):Tr Try.prog 30 [.int .i64 n] [] (fun v K=>v=.int .i64 (pagesC n)∧K=[]):=by
 refine Tr.of row_large_run_ok rfl ?_
 repeat' (first|refine qN ?_|refine dN ?_|refine dR ?_|refine d0 ?_|refine rT ?_|refine aI (hn:=?_)|refine qR ?_|refine qS ?_|exact ⟨rfl,rfl⟩|fail)
 first|refine L_rs ?_|refine L_reg ?_ | skip
 refine cP [] (Pages_tr n) ?_
 repeat' (first|refine qN ?_|refine dN ?_|refine dR ?_|refine d0 ?_|refine rT ?_|refine aI (hn:=?_)|refine qR ?_|refine qS ?_|exact ⟨rfl,rfl⟩|fail)
theorem canary_tr (key:BitVec 64) (bs:Bytes) (G:Great) (c:Nat) (p n:Int) (hp:0≤p∧p≤256):Tr Try.prog 23 [ptr 0,.int .i64 p,.int .i64 n] (SetL key bs G c) (fun v K=>v=.tuple ⟨[.int .i64 (256*(p+pagesC n)-8),.int .u64 ((canW key (256*p)).toNat:Int)]⟩∧K=SetL key bs G c):=by
 have hP:=pagesC_bd n
 refine Tr.of row_large_Set_canary_ok rfl ?_
 repeat' (first|refine qN ?_|refine dN ?_|refine dR ?_|refine d0 ?_|refine rT ?_|refine aA ?_|refine aS ?_|refine aI (hn:=?_)|refine aM ?_|refine qR ?_|refine qS ?_|exact ⟨rfl,rfl⟩|fail)
 first|refine L_rs ?_|refine L_reg ?_ | skip
 refine cP [] (run_tr n) ?_
 repeat' (first|refine qN ?_|refine dN ?_|refine dR ?_|refine d0 ?_|refine rT ?_|refine aA ?_|refine aS ?_|refine aI (hn:=?_)|refine aM ?_|refine qR ?_|refine qS ?_|exact ⟨rfl,rfl⟩|fail)
 first|refine L_rs ?_|refine L_reg ?_ | skip
 refine cP [] (Canary_tr key (256*p)) ?_
 repeat' (first|refine qN ?_|refine dN ?_|refine dR ?_|refine d0 ?_|refine rT ?_|refine aA ?_|refine aS ?_|refine aI (hn:=?_)|refine aM ?_|refine qR ?_|refine qS ?_|exact ⟨rfl,rfl⟩|fail)
set_option maxHeartbeats 1000000 in
theorem meets_tr (key:BitVec 64) (bs:Bytes) (G:Great) (c:Nat) (hG:Small G 256) (hO:GOk G c) (p m:Int) (hp:0≤p∧p≤256) (hm:0≤m∧m≤256):Tr Try.prog 21 [ptr 0,.int .i64 p,.int .i64 m] (SetL key bs G c) (fun v K=>v=.bool (meetsG G p m)∧K=SetL key bs G c):=by
 refine Tr.of row_large_Set_meets_ok rfl ?_
 refine L_rs (S_done [] rfl (Nx.goL ?_))
 refine L_cut (fun l L=>meetsG G p m=false∧l=[]∧L=SetL key bs G c) ?_ ?_
 ·repeat' (first|refine qN ?_|refine dN ?_|refine dR ?_|refine d0 ?_|refine qB ?_|refine rT ?_|refine qT ?_|refine qU ?_|refine qL ?_|refine qK ?_|refine qF ?_|refine qE ?_|refine iF (fun h=>?_) (fun h=>?_)|refine aA ?_|refine aI (hn:=?_)|refine sP 25 (fun h=>?_) (fun h=>?_)|refine qR ?_|refine qS ?_|exact ⟨rfl,rfl⟩|fail)
  first|refine L_rs ?_|refine L_reg ?_ | skip
  refine eE rfl rfl (EW.irange rfl (by kernel_rfl) rfl rfl) ?_
  conv=>whnf
  refine S_done [] rfl (Nx.pick [0,1,2,13] [0,1,2,3,4] rfl rfl rfl ?_)
  refine L_block (L_loop (fun r l L=>∃ seen:List Nat,r=unseen G seen∧(∀ x∈G,x.2.2∈seen→¬ (p<x.1+pagesC x.2.1∧x.1<p+m))∧l=[(0,ptr 0),(1,.int .i64 p),(2,.int .i64 m),(13,ptr 4)]∧L=SetL key bs G c++[.iter (some 3) c seen c]) (unseen G []) ⟨[],rfl,by simp,rfl,rfl⟩ ?_)
  rintro r _ _ ⟨seen,rfl,hs,rfl,rfl⟩
  refine L_rs (S_E [] rfl rfl (EW.inext rfl rfl rfl rfl) ?_)
  rintro _ _ (⟨e,he,hns,rfl,rfl⟩ | ⟨hall,rfl,rfl⟩)
  ·refine ⟨trivial,LSt.nf ?_⟩
   conv=>whnf
   refine S_done [] rfl (Nx.goL (L_seq (L_true rfl (L_skip (Nx.goL (L_block ?_))))))
   have hx:=hG e he
   have hP:=pagesC_bd e.2.1
   first|refine L_rs ?_|refine L_reg ?_ | skip
   refine eE rfl rfl (EW.ientry rfl rfl rfl rfl he) ?_
   conv=>whnf
   repeat' (first|refine qN ?_|refine dN ?_|refine dR ?_|refine d0 ?_|refine qB ?_|refine rT ?_|refine qT ?_|refine qU ?_|refine qL ?_|refine qK ?_|refine qF ?_|refine qE ?_|refine iF (fun h=>?_) (fun h=>?_)|refine aA ?_|refine aI (hn:=?_)|refine sP 25 (fun h=>?_) (fun h=>?_)|refine qR ?_|refine qS ?_|exact ⟨rfl,rfl⟩|fail)
   first|refine L_rs ?_|refine L_reg ?_ | skip
   refine cP [] (run_tr e.2.1) ?_
   repeat' (first|refine qN ?_|refine dN ?_|refine dR ?_|refine d0 ?_|refine qB ?_|refine rT ?_|refine qT ?_|refine qU ?_|refine qL ?_|refine qK ?_|refine qF ?_|refine qE ?_|refine iF (fun h=>?_) (fun h=>?_)|refine aA ?_|refine aI (hn:=?_)|refine sP 25 (fun h=>?_) (fun h=>?_)|refine qR ?_|refine qS ?_|exact ⟨rfl,rfl⟩|fail)
   ·refine ⟨congrArg Value.bool ?_,rfl⟩
    rw [Eq.comm,meetsG,List.any_eq_true]
    exact ⟨e,he,by simp; omega⟩
   all_goals
    refine Nx.pick [0,1,2,13] [0,1,2,3,4] rfl rfl rfl ⟨unseen G (seen++[e.2.2]),unseen_lt he hns,seen++[e.2.2],rfl,fun x hx1 hx2=>?_,rfl,rfl⟩
    rcases List.mem_append.1 hx2 with hx2 | hx2
    ·exact hs x hx1 hx2
    ·rw [List.mem_singleton] at hx2
     rw [hO.born hx1 he hx2]
     omega
  ·refine ⟨trivial,?_⟩
   repeat' (first|refine qN ?_|refine dN ?_|refine dR ?_|refine d0 ?_|refine qB ?_|refine rT ?_|refine qT ?_|refine qU ?_|refine qL ?_|refine qK ?_|refine qF ?_|refine qE ?_|refine iF (fun h=>?_) (fun h=>?_)|refine aA ?_|refine aI (hn:=?_)|refine sP 25 (fun h=>?_) (fun h=>?_)|refine qR ?_|refine qS ?_|exact ⟨rfl,rfl⟩|fail)
   exact Nx.pick [] [0,1,2,3] rfl rfl rfl ⟨by rw [meetsG,List.any_eq_false]; intro x hx; have:=hs x hx (hall x hx); simp; omega,rfl,rfl⟩
 ·rintro _ _ ⟨hq,rfl,rfl⟩
  repeat' (first|refine qN ?_|refine dN ?_|refine dR ?_|refine d0 ?_|refine qB ?_|refine rT ?_|refine qT ?_|refine qU ?_|refine qL ?_|refine qK ?_|refine qF ?_|refine qE ?_|refine iF (fun h=>?_) (fun h=>?_)|refine aA ?_|refine aI (hn:=?_)|refine sP 25 (fun h=>?_) (fun h=>?_)|refine qR ?_|refine qS ?_|exact ⟨rfl,rfl⟩|fail)
  refine ⟨?_,rfl⟩
  rw [hq]; rfl
theorem no_find {G:Great} {p n:Int} (hG:Small G 256) (hn:greatC n=true) (hm:meetsG G p (pagesC n)=false):gfind G p=none:=by
 cases hf:gfind G p with
 | none=>rfl
 | some x =>
  obtain ⟨h1,h2⟩:=gfind_some hf
  rw [meetsG,List.any_eq_false] at hm
  have h3:=hm x h1
  obtain ⟨_,h5,_⟩:=hG x h1
  have e1:1≤pagesC n:=by unfold pagesC; unfold greatC at hn; simp at hn; rw [if_neg (by omega)]; omega
  have e2:1≤pagesC x.2.1:=by unfold pagesC; unfold greatC at h5; simp at h5; rw [if_neg (by omega)]; omega
  simp only [decide_eq_true_eq] at h3
  omega
def madeB (key:BitVec 64) (bs:Bytes) (p M:Nat):Bytes:=overB (overB bs (256*p) (List.replicate (256*M) 0)) (256*(p+M)-8) (putB (canW key (256*p)) 8)
theorem madeB_length {key:BitVec 64} {bs:Bytes} {p M:Nat} (h:256*(p+M)≤bs.length) (hM:1≤M):(madeB key bs p M).length=bs.length:=by
 unfold madeB
 have h1:(overB bs (256*p) (List.replicate (256*M) 0)).length=bs.length:=overB_length (by rw [List.length_replicate]; omega)
 rw [overB_length (by rw [putB_length,h1]; omega),h1]
theorem greatC_pages {n:Int} (h:greatC n=true):∃ M:Nat,pagesC n=M∧1≤M∧M≤17:=by
 have h1:=pagesC_bd n
 have e1:1≤pagesC n:=by unfold pagesC; unfold greatC at h; simp at h; rw [if_neg (by omega)]; omega
 exact ⟨(pagesC n).toNat,by omega,by omega,by omega⟩
set_option maxHeartbeats 1000000 in
theorem largeMake_ok (key:BitVec 64) (bs:Bytes) (N:Nat) (hN:bs.length=256*N) (hN2:N≤256) (G:Great) (c:Nat) (hG:Small G 256) (hO:GOk G c) (p M:Nat) (n:Int) (hn:greatC n=true) (hM:pagesC n=M) (hpM:p+M≤N) (hm:meetsG G p M=false) :
  Tr Try.prog 7 [ptr 0,.int .i64 p,.int .i64 n] (SetL key bs G c) (fun v K=>v=.int .i64 0∧K=SetL key (madeB key bs p M) (gput G p n c) (c+1)):=by
 obtain ⟨M',hM',hM1,hM17⟩:=greatC_pages hn
 obtain rfl:M'=M:=by omega
 have hb:bs.length≤65536:=by omega
 have hP:=Pages_tr n
 rw [hM,hn] at hP
 have hf:gfind G p=none:=no_find hG hn (by rw [hM]; exact hm)
 have hX:=meets_tr key bs G c hG hO p M' (by omega) (by omega)
 rw [hm] at hX
 have hl1:(overB bs (256*p) (List.replicate (256*M') 0)).length=bs.length:=overB_length (by rw [List.length_replicate]; omega)
 have hF:=arenaFill_ok bs hb (256*p) (256*M') 0 (by omega)
 rw [AL_over (by rw [List.length_replicate]; omega)] at hF
 have hC:=canary_tr key (overB bs (256*p) (List.replicate (256*M') 0)) (gput G p n c) (c+1) p n (by omega)
 rw [hM,show 256*((p:Int)+M')-8=((256*(p+M')-8:Nat):Int) by omega] at hC
 have hS:=arenaSetWord_ok (overB bs (256*p) (List.replicate (256*M') 0)) (by omega) (256*(p+M')-8) (by rw [hl1]; omega) (by omega) (canW key (256*p))
 refine Tr.of row_large_Set_Make_ok rfl ?_
 repeat' (first|refine qN ?_|refine dN ?_|refine dR ?_|refine d0 ?_|refine qB ?_|refine rT ?_|refine qT ?_|refine qU ?_|refine qL ?_|refine qK ?_|refine iF (fun h=>?_) (fun h=>?_)|refine aS ?_|refine aI (hn:=?_)|refine aD ?_|refine aM ?_|refine sP 22 (fun h=>?_) (fun h=>?_)|refine qR ?_|refine qS ?_|exact ⟨rfl,rfl⟩|fail)
 first|refine L_rs ?_|refine L_reg ?_ | skip
 refine cP [] (hP) ?_
 repeat' (first|refine qN ?_|refine dN ?_|refine dR ?_|refine d0 ?_|refine qB ?_|refine rT ?_|refine qT ?_|refine qU ?_|refine qL ?_|refine qK ?_|refine iF (fun h=>?_) (fun h=>?_)|refine aS ?_|refine aI (hn:=?_)|refine aD ?_|refine aM ?_|refine sP 22 (fun h=>?_) (fun h=>?_)|refine qR ?_|refine qS ?_|exact ⟨rfl,rfl⟩|fail)
 first|refine L_rs ?_|refine L_reg ?_ | skip
 refine cP [1,2] (arenaLen_tr bs) ?_
 repeat' (first|refine qN ?_|refine dN ?_|refine dR ?_|refine d0 ?_|refine qB ?_|refine rT ?_|refine qT ?_|refine qU ?_|refine qL ?_|refine qK ?_|refine iF (fun h=>?_) (fun h=>?_)|refine aS ?_|refine aI (hn:=?_)|refine aD ?_|refine aM ?_|refine sP 22 (fun h=>?_) (fun h=>?_)|refine qR ?_|refine qS ?_|exact ⟨rfl,rfl⟩|fail)
 ·exfalso; omega
 first|refine L_rs ?_|refine L_reg ?_ | skip
 refine cP [0,1,2,3] (hX) ?_
 repeat' (first|refine qN ?_|refine dN ?_|refine dR ?_|refine d0 ?_|refine qB ?_|refine rT ?_|refine qT ?_|refine qU ?_|refine qL ?_|refine qK ?_|refine iF (fun h=>?_) (fun h=>?_)|refine aS ?_|refine aI (hn:=?_)|refine aD ?_|refine aM ?_|refine sP 22 (fun h=>?_) (fun h=>?_)|refine qR ?_|refine qS ?_|exact ⟨rfl,rfl⟩|fail)
 first|refine L_rs ?_|refine L_reg ?_ | skip
 refine cF [1,2] (hF) ?_
 conv=>whnf
 repeat' (first|refine qN ?_|refine dN ?_|refine dR ?_|refine d0 ?_|refine qB ?_|refine rT ?_|refine qT ?_|refine qU ?_|refine qL ?_|refine qK ?_|refine iF (fun h=>?_) (fun h=>?_)|refine aS ?_|refine aI (hn:=?_)|refine aD ?_|refine aM ?_|refine sP 22 (fun h=>?_) (fun h=>?_)|refine qR ?_|refine qS ?_|exact ⟨rfl,rfl⟩|fail)
 first|refine L_rs ?_|refine L_reg ?_ | skip
 refine eE rfl rfl (EW.iputN rfl (by kernel_rfl) rfl rfl rfl rfl hf) ?_
 conv=>whnf
 simp only [SetL,hl1] at hC
 have hl2:=madeB_length (key:=key) (bs:=bs) (p:=p) (M:=M') (by omega) hM1
 simp only [AL,hl1,overB_length (show 256*(p+M')-8+(putB (canW key (256*p)) 8).length≤(overB bs (256*p) (List.replicate (256*M') 0)).length by rw [hl1,putB_length]; omega)] at hS
 repeat' (first|refine qN ?_|refine dN ?_|refine dR ?_|refine d0 ?_|refine qB ?_|refine rT ?_|refine qT ?_|refine qU ?_|refine qL ?_|refine qK ?_|refine iF (fun h=>?_) (fun h=>?_)|refine aS ?_|refine aI (hn:=?_)|refine aD ?_|refine aM ?_|refine sP 22 (fun h=>?_) (fun h=>?_)|refine qR ?_|refine qS ?_|exact ⟨rfl,rfl⟩|fail)
 first|refine L_rs ?_|refine L_reg ?_ | skip
 refine cP [0,1,2,3] (hC) ?_
 repeat' (first|refine qN ?_|refine dN ?_|refine dR ?_|refine d0 ?_|refine qB ?_|refine rT ?_|refine qT ?_|refine qU ?_|refine qL ?_|refine qK ?_|refine iF (fun h=>?_) (fun h=>?_)|refine aS ?_|refine aI (hn:=?_)|refine aD ?_|refine aM ?_|refine sP 22 (fun h=>?_) (fun h=>?_)|refine qR ?_|refine qS ?_|exact ⟨rfl,rfl⟩|fail)
 first|refine L_rs ?_|refine L_reg ?_ | skip
 refine cF [1,2] (hS) ?_
 conv=>whnf
 repeat' (first|refine qN ?_|refine dN ?_|refine dR ?_|refine d0 ?_|refine qB ?_|refine rT ?_|refine qT ?_|refine qU ?_|refine qL ?_|refine qK ?_|refine iF (fun h=>?_) (fun h=>?_)|refine aS ?_|refine aI (hn:=?_)|refine aD ?_|refine aM ?_|refine sP 22 (fun h=>?_) (fun h=>?_)|refine qR ?_|refine qS ?_|exact ⟨rfl,rfl⟩|fail)
 refine ⟨rfl,?_⟩
 simp only [SetL,hl2]
 rfl
end Go.Proofs.Ytpnjahijpdfcgaa
end
section
namespace Go.Proofs.Ytpnjahijpdfcgaa
open Go Go.Tum Go.Tum.Base
set_option maxRecDepth 4000
theorem stands_tr (key:BitVec 64) (bs:Bytes) (hb:bs.length≤65536) (G:Great) (c:Nat) (p:Nat) (n:Int) (hn:gget G p=n) (i:Nat) (hp:p≤256) (hi:256*(p+pagesC n)-8=i) (hle:i+8≤bs.length):Tr Try.prog 29 [ptr 0,.int .i64 p] (SetL key bs G c) (fun v K=>v=.bool (decide (wordB bs i=canW key (256*p)))∧K=SetL key bs G c):=by
 have hC:=canary_tr key bs G c p n (by omega)
 rw [hi] at hC
 refine Tr.of row_large_Set_stands_ok rfl ?_
 repeat' (first|refine qN ?_|refine dN ?_|refine dR ?_|refine d0 ?_|refine rT ?_|refine aI (hn:=?_)|refine sP 32 (fun h=>?_) (fun h=>?_)|refine qR ?_|refine qS ?_|exact ⟨rfl,rfl⟩|fail)
 first|refine L_rs ?_|refine L_reg ?_ | skip
 refine S_Q [] rfl rfl (QY.iget rfl (by kernel_rfl) rfl rfl rfl hn) ?_
 first|refine L_rs ?_|refine L_reg ?_ | skip
 refine cP [0,1,2,3] (hC) ?_
 repeat' (first|refine qN ?_|refine dN ?_|refine dR ?_|refine d0 ?_|refine rT ?_|refine aI (hn:=?_)|refine sP 32 (fun h=>?_) (fun h=>?_)|refine qR ?_|refine qS ?_|exact ⟨rfl,rfl⟩|fail)
 first|refine L_rs ?_|refine L_reg ?_ | skip
 refine cP [1,2] (arenaWord_ok bs hb i hle (by omega)) ?_
 repeat' (first|refine qN ?_|refine dN ?_|refine dR ?_|refine d0 ?_|refine rT ?_|refine aI (hn:=?_)|refine sP 32 (fun h=>?_) (fun h=>?_)|refine qR ?_|refine qS ?_|exact ⟨rfl,rfl⟩|fail)
 refine ⟨congrArg Value.bool ?_,rfl⟩
 rw [Bool.eq_iff_iff,beq_iff_eq,decide_eq_true_eq]
 exact ⟨fun h=>BitVec.eq_of_toNat_eq (by omega),fun h=>by rw [h]⟩
set_option maxHeartbeats 1000000 in
theorem largeDrop_ok (key:BitVec 64) (bs:Bytes) (hb:bs.length≤65536) (G:Great) (c:Nat) (p M:Nat) (n:Int) (hf:ghas G p=true) (hg:gget G p=n) (hM:pagesC n=M) (hM1:1≤M) (hp:256*(p+M)≤bs.length) :
  Tr Try.prog 9 [ptr 0,.int .i64 p] (SetL key bs G c) (fun v K=>v=.tuple ⟨[.bool (decide (wordB bs (256*(p+M)-8)=canW key (256*p))),.int .i64 0]⟩∧K=SetL key (overB bs (256*p) (List.replicate (256*M) 0xDD#8)) (gdel G p) c):=by
 have hl1:(overB bs (256*p) (List.replicate (256*M) 0xDD#8)).length=bs.length:=overB_length (by rw [List.length_replicate]; omega)
 have hS:=stands_tr key bs hb G c p n hg (256*(p+M)-8) (by omega) (by omega) (by omega)
 have hR:=run_tr n
 rw [hM] at hR
 have hF:=arenaFill_ok bs hb (256*p) (256*M) 0xDD#8 (by omega)
 rw [AL_over (by rw [List.length_replicate]; omega)] at hF
 refine Tr.of row_large_Set_Drop_ok rfl ?_
 repeat' (first|refine qN ?_|refine dN ?_|refine dR ?_|refine d0 ?_|refine rT ?_|refine qT ?_|refine qU ?_|refine qL ?_|refine qK ?_|refine iF (fun h=>?_) (fun h=>?_)|refine aI (hn:=?_)|refine aM ?_|refine qR ?_|refine qS ?_|exact ⟨rfl,rfl⟩|fail)
 first|refine L_rs ?_|refine L_reg ?_ | skip
 refine S_Q [] rfl rfl (QY.igetok rfl (by kernel_rfl) rfl rfl rfl hg hf) ?_
 repeat' (first|refine qN ?_|refine dN ?_|refine dR ?_|refine d0 ?_|refine rT ?_|refine qT ?_|refine qU ?_|refine qL ?_|refine qK ?_|refine iF (fun h=>?_) (fun h=>?_)|refine aI (hn:=?_)|refine aM ?_|refine qR ?_|refine qS ?_|exact ⟨rfl,rfl⟩|fail)
 first|refine L_rs ?_|refine L_reg ?_ | skip
 refine cP [0,1,2,3] (hS) ?_
 repeat' (first|refine qN ?_|refine dN ?_|refine dR ?_|refine d0 ?_|refine rT ?_|refine qT ?_|refine qU ?_|refine qL ?_|refine qK ?_|refine iF (fun h=>?_) (fun h=>?_)|refine aI (hn:=?_)|refine aM ?_|refine qR ?_|refine qS ?_|exact ⟨rfl,rfl⟩|fail)
 first|refine L_rs ?_|refine L_reg ?_ | skip
 refine eE rfl rfl (EW.idel rfl (by kernel_rfl) rfl rfl rfl) ?_
 conv=>whnf
 repeat' (first|refine qN ?_|refine dN ?_|refine dR ?_|refine d0 ?_|refine rT ?_|refine qT ?_|refine qU ?_|refine qL ?_|refine qK ?_|refine iF (fun h=>?_) (fun h=>?_)|refine aI (hn:=?_)|refine aM ?_|refine qR ?_|refine qS ?_|exact ⟨rfl,rfl⟩|fail)
 first|refine L_rs ?_|refine L_reg ?_ | skip
 refine cP [] (hR) ?_
 repeat' (first|refine qN ?_|refine dN ?_|refine dR ?_|refine d0 ?_|refine rT ?_|refine qT ?_|refine qU ?_|refine qL ?_|refine qK ?_|refine iF (fun h=>?_) (fun h=>?_)|refine aI (hn:=?_)|refine aM ?_|refine qR ?_|refine qS ?_|exact ⟨rfl,rfl⟩|fail)
 first|refine L_rs ?_|refine L_reg ?_ | skip
 refine cF [1,2] (hF) ?_
 conv=>whnf
 repeat' (first|refine qN ?_|refine dN ?_|refine dR ?_|refine d0 ?_|refine rT ?_|refine qT ?_|refine qU ?_|refine qL ?_|refine qK ?_|refine iF (fun h=>?_) (fun h=>?_)|refine aI (hn:=?_)|refine aM ?_|refine qR ?_|refine qS ?_|exact ⟨rfl,rfl⟩|fail)
 refine ⟨rfl,?_⟩
 simp only [SetL,hl1]
 rfl
def standsG (key:BitVec 64) (bs:Bytes) (x:Int × Int × Nat):Bool:=decide (wordB bs (256*(x.1+pagesC x.2.1)-8).toNat=canW key (256*x.1))
set_option maxHeartbeats 1000000 in
theorem largeCheck_tr (key:BitVec 64) (bs:Bytes) (N:Nat) (hN:bs.length=256*N) (hN2:N≤256) (G:Great) (c:Nat) (hG:Small G N) (hO:GOk G c) :
  Tr Try.prog 16 [ptr 0] (SetL key bs G c) (fun v K=>v=.int .i64 (if G.all (standsG key bs) then 0 else 4)∧K=SetL key bs G c):=by
 refine Tr.of row_large_Set_Check_ok rfl ?_
 refine L_rs (S_done [] rfl (Nx.goL (L_seq (L_rs (S_done [] rfl (Nx.goL (L_false rfl (L_skip (Nx.goL ?_)))))))))
 refine L_cut (fun l L=>G.all (standsG key bs)=true∧l=[]∧L=SetL key bs G c) ?_ ?_
 ·repeat' (first|refine qN ?_|refine dN ?_|refine dR ?_|refine d0 ?_|refine qB ?_|refine rT ?_|refine qT ?_|refine qU ?_|refine qL ?_|refine qK ?_|refine qF ?_|refine qE ?_|refine iF (fun h=>?_) (fun h=>?_)|refine aI (hn:=?_)|refine qR ?_|refine qS ?_|exact ⟨rfl,rfl⟩|fail)
  first|refine L_rs ?_|refine L_reg ?_ | skip
  refine eE rfl rfl (EW.irange rfl (by kernel_rfl) rfl rfl) ?_
  conv=>whnf
  refine S_done [] rfl (Nx.pick [0,10] [0,1,2,3,4] rfl rfl rfl ?_)
  refine L_block (L_loop (fun r l L=>∃ seen:List Nat,r=unseen G seen∧(∀ x∈G,x.2.2∈seen→standsG key bs x=true)∧l=[(0,ptr 0),(10,ptr 4)]∧L=SetL key bs G c++[.iter (some 3) c seen c]) (unseen G []) ⟨[],rfl,by simp,rfl,rfl⟩ ?_)
  rintro r _ _ ⟨seen,rfl,hs,rfl,rfl⟩
  refine L_rs (S_E [] rfl rfl (EW.inext rfl rfl rfl rfl) ?_)
  rintro _ _ (⟨e,he,hns,rfl,rfl⟩ | ⟨hall,rfl,rfl⟩)
  ·refine ⟨trivial,LSt.nf ?_⟩
   conv=>whnf
   refine S_done [] rfl (Nx.goL (L_seq (L_true rfl (L_skip (Nx.goL (L_block ?_))))))
   obtain ⟨hx0,hx1,hx2⟩:=hG e he
   obtain ⟨M,hM,hM1,_⟩:=greatC_pages hx1
   obtain ⟨q,hq⟩:=Int.eq_ofNat_of_zero_le hx0
   have hS:=stands_tr key bs (by omega) G c q e.2.1 (by rw [← hq]; simp only [gget,hO.find he]; rfl) (256*(q+M)-8) (by omega) (by omega) (by omega)
   have hst:decide (wordB bs (256*(q+M)-8)=canW key (256*q))=standsG key bs e:=by
    unfold standsG
    rw [hq,hM,show (256*((q:Int)+M)-8).toNat=256*(q+M)-8 by omega]
   rw [hst,← hq] at hS
   first|refine L_rs ?_|refine L_reg ?_ | skip
   refine eE rfl rfl (EW.ientry rfl rfl rfl rfl he) ?_
   conv=>whnf
   repeat' (first|refine qN ?_|refine dN ?_|refine dR ?_|refine d0 ?_|refine qB ?_|refine rT ?_|refine qT ?_|refine qU ?_|refine qL ?_|refine qK ?_|refine qF ?_|refine qE ?_|refine iF (fun h=>?_) (fun h=>?_)|refine aI (hn:=?_)|refine qR ?_|refine qS ?_|exact ⟨rfl,rfl⟩|fail)
   first|refine L_rs ?_|refine L_reg ?_ | skip
   refine cP [0,1,2,3] (hS) ?_
   repeat' (first|refine qN ?_|refine dN ?_|refine dR ?_|refine d0 ?_|refine qB ?_|refine rT ?_|refine qT ?_|refine qU ?_|refine qL ?_|refine qK ?_|refine qF ?_|refine qE ?_|refine iF (fun h=>?_) (fun h=>?_)|refine aI (hn:=?_)|refine qR ?_|refine qS ?_|exact ⟨rfl,rfl⟩|fail)
   ·refine ⟨congrArg (Value.int _) ?_,rfl⟩
    rw [if_neg]
    intro hq
    rw [List.all_eq_true] at hq
    exact h (of_decide_eq_true (hq e he))
   ·refine Nx.pick [0,10] [0,1,2,3,4] rfl rfl rfl ⟨unseen G (seen++[e.2.2]),unseen_lt he hns,seen++[e.2.2],rfl,fun x hx1 hx2=>?_,rfl,rfl⟩
    rcases List.mem_append.1 hx2 with hx2 | hx2
    ·exact hs x hx1 hx2
    ·rw [List.mem_singleton] at hx2
     rw [hO.born hx1 he hx2]
     exact decide_eq_true (by simpa using h)
  ·refine ⟨trivial,?_⟩
   repeat' (first|refine qN ?_|refine dN ?_|refine dR ?_|refine d0 ?_|refine qB ?_|refine rT ?_|refine qT ?_|refine qU ?_|refine qL ?_|refine qK ?_|refine qF ?_|refine qE ?_|refine iF (fun h=>?_) (fun h=>?_)|refine aI (hn:=?_)|refine qR ?_|refine qS ?_|exact ⟨rfl,rfl⟩|fail)
   exact Nx.pick [] [0,1,2,3] rfl rfl rfl ⟨List.all_eq_true.2 fun x hx=>hs x hx (hall x hx),rfl,rfl⟩
 ·rintro _ _ ⟨hq,rfl,rfl⟩
  repeat' (first|refine qN ?_|refine dN ?_|refine dR ?_|refine d0 ?_|refine qB ?_|refine rT ?_|refine qT ?_|refine qU ?_|refine qL ?_|refine qK ?_|refine qF ?_|refine qE ?_|refine iF (fun h=>?_) (fun h=>?_)|refine aI (hn:=?_)|refine qR ?_|refine qS ?_|exact ⟨rfl,rfl⟩|fail)
  refine ⟨?_,rfl⟩
  rw [if_pos hq]; rfl
end Go.Proofs.Ytpnjahijpdfcgaa
end
section
namespace Go.Tum
open Go
def RdC (w:World) (sz:Nat) (v:Value) (n:Nat) (cells:List Value):Prop :=
 cells.length=n*sz∧(∀ u∈cells,one u=true) ∧
 (((∃ a c,v=.slice a 0 c)∧n=0)∨∃ sa c,v=.slice (some sa) n c∧∀ j,j<n*sz→w.cell? (sa.add j)=cells[j]?)
end Go.Tum
end
section
namespace Go.Tum
open Go
section
variable {P:Program} {n0:NA} {L:LH} {l:Env}
theorem L2.setL {R:Value→Value→Prop}:∀ {x y:List Value} {j:Nat} {u:Value},L2 R x y→(∀ a c,x[j]?=some a→R a c→R u c)→L2 R (x.set j u) y
 | [],_,_,_,h,_=>h
 | _::_,[],_,_,h,_=>h.elim
 | a::x,c::y,0,u,h,hu=>⟨hu a c rfl h.1,h.2⟩
 | a::x,c::y,j+1,u,h,hu=>⟨h.1,L2.setL h.2 fun a' c' ha=>hu a' c' (by simpa using ha)⟩
theorem rep_nilC {b j sz:Nat} (szg:Nat) {vs:List Value} {X:Nat→Prop} {w0 w:World} {E:Emb} (hb:L[b]?=some (.cells sz vs)) (hv:vs[j]?=some (.slice none 0 0)) (hR:Rep X w0 E L w):Rep X w0 (E++[(0,0,0)]) (L.set b (.cells sz (vs.set j (.slice (some ⟨L.length,0,none⟩) 0 0)))++[.gro szg []]) w:=by
 have h1:Rep X w0 (E++[(0,0,0)]) (L++[.gro szg []]) w:=hR.push (Fr.refl _ w) (fun _ h=>h.elim) (.inl ⟨rfl,rfl⟩)
 have hlast:(E++[(0,0,0)])[L.length]?=some (0,0,0):=by rw [← hR.len]; simp
 have hlt:=(List.getElem?_eq_some_iff.1 hb).1
 have hb1:(L++[LB.gro szg []])[b]?=some (.cells sz vs):=by rw [List.getElem?_append_left hlt]; exact hb
 obtain ⟨r,hr⟩:=h1.ent hb1
 obtain ⟨cs,hB,hl2,hroom,hz⟩:=h1.blk b _ r hb1 hr
 have h2:=h1.upd (x:=.cells sz (vs.set j (.slice (some ⟨L.length,0,none⟩) 0 0))) hb1 hr (Fr.refl _ w) ⟨cs,hB,?_,by rw [List.length_set]; exact hroom,hz⟩ (fun _ h=>.inl h)
 ·rw [List.set_append_left _ _ hlt] at h2; exact h2
 ·rw [List.length_set]
  refine L2.setL hl2 fun a c ha hc=>?_
  rw [hv] at ha; cases ha
  have hc:c=Value.slice none 0 0:=hc
  subst hc
  exact ⟨rfl,_,hlast,.inr ⟨rfl,rfl,_,rfl⟩⟩
theorem Nx.nilC {k:Env→LH→Prop} (b j szg:Nat) {sz:Nat} {vs:List Value} (hb:L[b]?=some (.cells sz vs)) (hv:vs[j]?=some (.slice none 0 0)) (h:Nx n0 k l (L.set b (.cells sz (vs.set j (.slice (some ⟨L.length,0,none⟩) 0 0)))++[.gro szg []])):Nx n0 k l L:=by
 intro X w0 E0 w E l' hE hR hl
 exact h X w0 E0 w (E++[(0,0,0)]) l' (hE.trans (Ext.push E _)) (rep_nilC szg hb hv hR) (hl.ext (Ext.push E _))
end
end Go.Tum
end
section
namespace Go.Tum
open Go Go.RowKit Go.WideShapes Go.ChangeShapes Go.Deep
instance : Inhabited AV:=⟨.v undef⟩
def AV.val:AV→Value
 | .v u=>u
 | .s a n c _ _=>.slice (some ⟨a.block,a.off,some 0⟩) n c
def AV.still:AV→Bool
 | .v u=>stillS u
 | .s _ _ _ _ _=>true
theorem AV.sr {X:Nat→Prop} {w0:World} {E:Emb}:∀ {a:AV} {y:Value},a.is X w0 y→a.still=true→SR E a.val y
 | .v _,_,h,hs=>by
  have h:_=_:=h
  subst h
  exact SR.still hs
 | .s _ _ _ _ _,_,h,_=>h.1
def rowF (sz:Nat) (F:Nat→List AV):Nat→AV:=fun q=>(F (q / sz)).getD (q % sz) (.v undef)
theorem rowF_at {sz i j:Nat} {F:Nat→List AV} {u:AV} (hl:(F i).length=sz) (hu:(F i)[j]?=some u):rowF sz F (i*sz+j)=u:=by
 have hj:j<sz:=by rw [← hl]; exact (List.getElem?_eq_some_iff.1 hu).1
 have h1:(i*sz+j) / sz=i:=by rw [Nat.mul_comm,Nat.mul_add_div (by omega),Nat.div_eq_of_lt hj,Nat.add_zero]
 have h2:(i*sz+j) % sz=j:=by rw [Nat.mul_comm,Nat.mul_add_mod,Nat.mod_eq_of_lt hj]
 simp [rowF,h1,h2,hu]
theorem rowF_one {F:Nat→List AV} {i:Nat} {u:AV} (h:F i=[u]):rowF 1 F i=u:=by
 have:=rowF_at (sz:=1) (i:=i) (j:=0) (F:=F) (u:=u) (by rw [h]; rfl) (by rw [h]; rfl)
 simpa using this
theorem L2.ofIdx {R:Value→Value→Prop}:∀ {x y:List Value},x.length=y.length→(∀ (i:Nat) (a b:Value),x[i]?=some a→y[i]?=some b→R a b)→L2 R x y
 | [],[],_,_=>trivial
 | a::x,b::y,h,k=>⟨k 0 a b rfl rfl,L2.ofIdx (Nat.succ.inj h) fun i a b ha hb=>k (i+1) a b ha hb⟩
 | [],_::_,h,_=>by cases h
 | _::_,[],h,_=>by cases h
def NA.Has (n0:NA) (P:Program) (a:AV):Prop:=∀ (X:Nat→Prop) (w0:World) (E0:Emb),n0.Ok P X w0 E0→∃ y,a.is X w0 y
section
variable {P:Program} {n0:NA} {Q:Exit→Env→LH→Prop} {l:Env} {L:LH}
theorem NA.Has.arg {k M p:Nat} {G:Nat→AV} (hA:(k,M,G)∈n0.A) (hp:p<M):n0.Has P (G p):=by
 intro X w0 E0 h0
 obtain ⟨_,hA'⟩:=h0.2.1 _ hA
 obtain ⟨r,_,_,_,h4⟩:=hA' (by simp only; omega)
 obtain ⟨y,_,h6⟩:=h4 p hp
 exact ⟨y,h6⟩
theorem NA.Has.row {k n sz i j:Nat} {F:Nat→List AV} {u:AV} (hA:(k,n*sz,rowF sz F)∈n0.A) (hi:i<n) (hl:(F i).length=sz) (hu:(F i)[j]?=some u):n0.Has P u:=by
 have hj:j<sz:=by rw [← hl]; exact (List.getElem?_eq_some_iff.1 hu).1
 have hlt:i*sz+j<n*sz:=by
  have:(i+1)*sz≤n*sz:=Nat.mul_le_mul_right _ hi
  rw [Nat.add_mul] at this; omega
 have:=NA.Has.arg (P:=P) hA hlt
 rwa [rowF_at hl hu] at this
theorem QY.rowF {x:Operand} {k o n sz j:Nat} {F:Nat→List AV} (i:Nat) (hx:lv l x=some (.pointer (some ⟨k,o,none⟩))) (hA:n0.A[j]?=some (k,n*sz,Go.Tum.rowF sz F)) (ho:o=i*sz) (hi:i<n) (hl:(F i).length=sz) (hs:(F i).all AV.still=true):QY P n0 L l (.ldn x sz) (.agg ⟨(F i).map AV.val⟩):=by
 intro X w0 E0 w E l' h0 hE hR hl'
 obtain ⟨_,h1,a',rfl,_,r,hr,rfl⟩:=lv_ev hl' hx
 have hr:E[k]?=some r:=hr
 subst ho
 obtain ⟨ys,hys⟩:=choose_lt (n:=sz) (p:=fun j' (y:Value)=>w.cell? ⟨r.1,r.2.1+(i*sz+j'),none⟩=some y∧(Go.Tum.rowF sz F (i*sz+j')).is X w0 y) fun j' hj'=>by
  have hlt:i*sz+j'<n*sz:=by
   have:(i+1)*sz≤n*sz:=Nat.mul_le_mul_right _ hi
   rw [Nat.add_mul] at this; omega
  obtain ⟨r',y,h2,h3,h4⟩:=arg_cell h0 hE hR (List.mem_of_getElem? hA) hlt
  rw [hr] at h2; cases h2
  exact ⟨y,h3,h4⟩
 refine ⟨.agg ⟨(List.range sz).map ys⟩,⟨_,⟨(List.range sz).map ys⟩,h1,by simp,fun j' hj'=>?_,rfl⟩,⟨_,rfl,L2.ofIdx (by simp [hl]) fun j' a b ha hb=>?_⟩⟩
 ·rw [add_none,List.getElem?_toArray,List.getElem?_map,List.getElem?_range hj']
  show _=some (ys j')
  rw [← (hys j' hj').1]
  congr 2; show i*sz+r.2.1+j'=_; omega
 ·have hj':j'<sz:=by
   have:=(List.getElem?_eq_some_iff.1 hb).1
   rw [List.length_map,List.length_range] at this
   exact this
  rw [List.getElem?_map,List.getElem?_range hj'] at hb
  cases hb
  have hu:(F i)[j']?=some ((F i)[j']'(by omega)):=List.getElem?_eq_getElem (by omega)
  rw [List.getElem?_map,hu] at ha
  cases ha
  have h4:=(hys j' hj').2
  rw [rowF_at hl hu] at h4
  exact AV.sr h4 (List.all_eq_true.1 hs _ (List.getElem_mem _))
theorem argR_cell {X:Nat→Prop} {w0 w:World} {E0 E:Emb} {a:Addr} {n c m:Nat} {get:Nat→AV} (h0:n0.Ok P X w0 E0) (hR:Rep X w0 E L w) (h:n0.Has P (.s a n c m get)) {i:Nat} (hi:i<m) :
  ∃ y,w.cell? ⟨a.block,a.off+i,none⟩=some y∧(get i).is X w0 y:=by
 obtain ⟨y,h3⟩:=h X w0 E0 h0
 obtain ⟨h4,h5,h6⟩:=h3.2 (by omega)
 obtain ⟨y',h7,h8⟩:=h6 i hi
 exact ⟨y',by rw [← h7]; simp only [World.cell?,hR.fr.keep _ h4 h5],h8⟩
end
inductive CN where
 | c (k:CK)
 | s (ks:List CN)
def CnOk:Nat→CN→AV→Prop
 | 0,_,_=>False
 | _+1,.c k,a=>∃ v,a=.v v∧CkOk k v
 | d+1,.s ks,a=>∃ b o n c F,a=.s ⟨b,o,none⟩ n c (n*ks.length) (rowF ks.length F)∧n≤c∧c≤9223372036854775807∧∀ i,i<n→(F i).length=ks.length∧∀ (j:Nat) (k:CN),ks[j]?=some k→∃ a',(F i)[j]?=some a'∧CnOk d k a'
def nestF (P:Program) (g:TypeId→Option (List CN)):List Field→Nat→Option (List CN)
 | [],_=>some []
 | f::fs,off=>match g f.type with
  | some ks=>if f.offset=off∧P.cellsOf f.type=ks.length then (match nestF P g fs (off+ks.length) with
   | some r=>some (ks++r)
   | none=>none) else none
  | none=>none
def nest (P:Program):Nat→TypeId→Option (List CN)
 | 0,_=>none
 | d+1,t=>match P.underlying t with
  | some (.int k)=>some [.c (some k)]
  | some .bool=>some [.c none]
  | some (.slice e)=>match nest P d e with
   | some ks=>if P.cellsOf e=ks.length∧0<ks.length then some [.s ks] else none
   | none=>none
  | some (.struct fs)=>match nestF P (nest P d) fs.toList 0 with
   | some ks=>if P.cellsOf t=ks.length then some ks else none
   | none=>none
  | _=>none
theorem CnOk.up:∀ {d:Nat} {k:CN} {a:AV},CnOk d k a→CnOk (d+1) k a
 | 0,_,_,h=>h.elim
 | _+1,.c _,_,h=>h
 | d+1,.s ks,a,h=>by
  obtain ⟨b,o,n,c,F,h1,h2,h3,h4⟩:=h
  exact ⟨b,o,n,c,F,h1,h2,h3,fun i hi=>⟨(h4 i hi).1,fun j k hk=>let ⟨a',g1,g2⟩:=(h4 i hi).2 j k hk; ⟨a',g1,g2.up⟩⟩⟩
section
variable {H:Type} {enc:TypeId × Value→H} {P:Program} {w:World}
def FitN (d:Nat) (w:World) (ks:List CN) (cs:List Value):Prop:=cs.length=ks.length∧∀ (i:Nat) (k:CN),ks[i]?=some k→∃ v a,cs[i]?=some v∧CnOk d k a∧a.is (fun _=>False) w v
theorem nestF_fits {d:Nat} {g:TypeId→Option (List CN)} {fuel:Nat} (hg:∀ t ks,g t=some ks→∀ cs x,DataW.trod enc P w 0 (fun _=>true) true fuel t cs=some x→FitN d w ks cs) :
  ∀ (fs:List Field) (off:Nat) (ks:List CN) (cs:List Value) (xs:List (DataW H × List MemPlace)),nestF P g fs off=some ks→fs.mapM (fun f=>DataW.trod enc P w 0 (fun _=>true) true fuel f.type ((cs.drop f.offset).take (P.cellsOf f.type)))=some xs →
   ∀ (i:Nat) (k:CN),ks[i]?=some k→∃ v a,cs[off+i]?=some v∧CnOk d k a∧a.is (fun _=>False) w v
 | [],off,ks,cs,xs,h,_,i,k,hk=>by simp only [nestF,Option.some.injEq] at h; subst h; simp at hk
 | f::fs,off,ks,cs,xs,h,hm,i,k,hk=>by
  simp only [nestF] at h
  cases h1:g f.type with
  | none=>rw [h1] at h; cases h
  | some k1 =>
   rw [h1] at h
   simp only at h
   split at h
   ·rename_i hc
    cases h2:nestF P g fs (off+k1.length) with
    | none=>rw [h2] at h; cases h
    | some k2 =>
     rw [h2] at h; cases h
     simp only [List.mapM_cons,Option.bind_eq_bind,Option.bind_eq_some_iff] at hm
     obtain ⟨x,hx,ys,hys,_⟩:=hm
     have hfit:=hg f.type k1 h1 _ _ hx
     by_cases hi:i<k1.length
     ·rw [List.getElem?_append_left hi] at hk
      obtain ⟨v,a,hv,hok⟩:=hfit.2 i k hk
      rw [List.getElem?_take] at hv
      split at hv
      ·rw [List.getElem?_drop,hc.1] at hv; exact ⟨v,a,hv,hok⟩
      ·cases hv
     ·rw [List.getElem?_append_right (by omega)] at hk
      obtain ⟨v,a,hv,hok⟩:=nestF_fits hg fs (off+k1.length) k2 cs ys h2 hys (i-k1.length) k hk
      exact ⟨v,a,by rw [show off+i=off+k1.length+(i-k1.length) by omega]; exact hv,hok⟩
   ·cases h
theorem fits_row {d:Nat} {ks:List CN} {cs:List Value} (h:FitN d w ks cs):∃ L:List AV,L.length=ks.length∧∀ (j:Nat) (k:CN),ks[j]?=some k→∃ v a,cs[j]?=some v∧L[j]?=some a∧CnOk d k a∧a.is (fun _=>False) w v:=by
 obtain ⟨f,hf⟩:=choose_lt (n:=ks.length) (p:=fun j (a:AV)=>∀ k,ks[j]?=some k→∃ v,cs[j]?=some v∧CnOk d k a∧a.is (fun _=>False) w v) fun j hj=>by
  obtain ⟨v,a,h1,h2,h3⟩:=h.2 j _ (List.getElem?_eq_getElem hj)
  refine ⟨a,fun k hk=>?_⟩
  rw [List.getElem?_eq_getElem hj] at hk; cases hk
  exact ⟨v,h1,h2,h3⟩
 refine ⟨(List.range ks.length).map f,by simp,fun j k hk=>?_⟩
 have hj:=(List.getElem?_eq_some_iff.1 hk).1
 obtain ⟨v,h1,h2,h3⟩:=hf j hj k hk
 exact ⟨v,f j,h1,by rw [List.getElem?_map,List.getElem?_range hj]; rfl,h2,h3⟩
theorem slice_av {d:Nat} {e:TypeId} {ks:List CN} {a:Addr} {len m nn:Nat} {D:Nat→DataW H} {Pl:Nat→List MemPlace} (hc:P.cellsOf e=ks.length) (hpos:0<ks.length) (hlm:len≤m)
  (hel:∀ i,i<m→∃ cs',w.cells? 0 (a.add (i*P.cellsOf e)) (P.cellsOf e)=some cs'∧DataW.trod enc P w 0 (fun _=>true) true nn e cs'=some (D i,Pl i))
  (hg:∀ cs x,DataW.trod enc P w 0 (fun _=>true) true nn e cs=some x→FitN d w ks cs) :
  ∃ F:Nat→List AV,(0<m→a.spot=none∧a.block<w.heap.size)∧(∀ i,i<m→(F i).length=ks.length∧∀ (j:Nat) (k:CN),ks[j]?=some k→∃ a',(F i)[j]?=some a'∧CnOk d k a') ∧
   ∀ i,i<m*ks.length→∃ y,w.cell? ⟨a.block,a.off+i,none⟩=some y∧(rowF ks.length F i).is (fun _=>False) w y:=by
 obtain ⟨get,hget⟩:=choose_lt (n:=m) (p:=fun i cs'=>w.cells? 0 (a.add (i*P.cellsOf e)) (P.cellsOf e)=some cs'∧DataW.trod enc P w 0 (fun _=>true) true nn e cs'=some (D i,Pl i)) hel
 obtain ⟨F,hF⟩:=choose_lt (n:=m) (p:=fun i (L:List AV)=>L.length=ks.length∧∀ (j:Nat) (k:CN),ks[j]?=some k→∃ v a,(get i)[j]?=some v∧L[j]?=some a∧CnOk d k a∧a.is (fun _=>False) w v) fun i hi=>fits_row (hg _ _ (hget i hi).2)
 obtain ⟨b,o,sp⟩:=a
 have hcell:∀ i,i<m→∀ (j:Nat) (u:Value),(get i)[j]?=some u→w.cell? ((⟨b,o,sp⟩:Addr).add (i*ks.length+j))=some u:=by
  intro i hi j u hu
  have:=(cells_cell (hget i hi).1).2 j u hu
  rw [add_add,hc] at this
  exact this
 have h00:0<m→sp=none∧b<w.heap.size:=by
  intro hm
  obtain ⟨v,_,hv,_⟩:=(hF 0 hm).2 0 _ (List.getElem?_eq_getElem hpos)
  have:=hcell 0 hm 0 v hv
  simp only [Nat.zero_mul,Nat.add_zero,Addr.add,if_true] at this
  have hsp:sp=none:=by
   cases sp with
   | none=>rfl
   | some x =>
    unfold World.cell? at this
    split at this
    ·simp at this
    ·cases this
  subst hsp
  refine ⟨rfl,?_⟩
  unfold World.cell? at this
  split at this
  ·rename_i hq; exact (Array.getElem?_eq_some_iff.1 hq).1
  ·cases this
 refine ⟨F,h00,fun i hi=>⟨(hF i hi).1,fun j k hk=>let ⟨v,a,_,h2,h3,_⟩:=(hF i hi).2 j k hk; ⟨a,h2,h3⟩⟩,fun i hi=>?_⟩
 have hdiv:i / ks.length<m:=Nat.div_lt_of_lt_mul (by rw [Nat.mul_comm]; exact hi)
 have hmod:i % ks.length<ks.length:=Nat.mod_lt _ hpos
 have hm:0<m:=Nat.lt_of_le_of_lt (Nat.zero_le _) hdiv
 obtain ⟨rfl,_⟩:=h00 hm
 obtain ⟨v,a,h1,h2,h3,h4⟩:=(hF _ hdiv).2 (i % ks.length) _ (List.getElem?_eq_getElem hmod)
 refine ⟨v,?_,?_⟩
 ·have:=hcell _ hdiv _ v h1
  rw [add_none,Nat.mul_comm,Nat.div_add_mod] at this
  exact this
 ·have:=rowF_at (F:=F) (i:=i / ks.length) (hF _ hdiv).1 h2
  rw [Nat.mul_comm,Nat.div_add_mod] at this
  rw [this]; exact h4
theorem nest_fits:∀ (d:Nat) (t:TypeId) (ks:List CN),nest P d t=some ks→∀ (fuel:Nat) (cs:List Value) (x:DataW H × List MemPlace),DataW.trod enc P w 0 (fun _=>true) true fuel t cs=some x→FitN d w ks cs:=by
 intro d
 induction d with
 | zero=>intro t ks h; cases h
 | succ d ih =>
  intro t ks h fuel cs x hx
  cases fuel with
  | zero=>cases hx
  | succ fuel =>
   simp only [nest] at h
   cases hu:P.underlying t with
   | none=>rw [hu] at h; cases h
   | some u =>
    rw [hu] at h
    cases u <;> simp only [reduceCtorEq] at h
    case int k =>
     cases h
     obtain ⟨n,e0,_,wn⟩:=DataW.trod_int hu hx
     subst e0
     refine ⟨rfl,fun i k' hk=>?_⟩
     cases i with
     | zero=>simp at hk; subst hk; exact ⟨_,.v _,rfl,⟨_,rfl,n,rfl,wn⟩,rfl⟩
     | succ i=>simp at hk
    case bool =>
     cases h
     obtain ⟨b,e0,_⟩:=DataW.trod_bool hu hx
     subst e0
     refine ⟨rfl,fun i k' hk=>?_⟩
     cases i with
     | zero=>simp at hk; subst hk; exact ⟨_,.v _,rfl,⟨_,rfl,b,rfl⟩,rfl⟩
     | succ i=>simp at hk
    case slice e =>
     cases hn:nest P d e with
     | none=>rw [hn] at h; cases h
     | some k1 =>
      rw [hn] at h
      simp only at h
      split at h
      rotate_left
      ·cases h
      rename_i hc
      cases h
      rcases open_slice hu hx with ⟨h0,_⟩ | ⟨a,len,cap,m,nn,D,Pl,h0,_,hl,hm,hmm,_,hel⟩
      ·subst h0
       refine ⟨rfl,fun i k' hk=>?_⟩
       cases i with
       | succ i=>simp at hk
       | zero =>
        simp at hk; subst hk
        exact ⟨_,.s ⟨0,0,none⟩ 0 0 (0*k1.length) (rowF k1.length fun _=>[]),rfl,⟨0,0,0,0,fun _=>[],rfl,by omega,by omega,fun i hi=>absurd hi (by omega)⟩,   .inr ⟨rfl,rfl,_,rfl⟩,fun h0=>absurd h0 (by omega)⟩
      ·subst h0
       have hm':m=cap:=by rw [hmm]; simp
       subst hm'
       have hmax:m≤9223372036854775807:=by unfold maxLen at hm; omega
       obtain ⟨F,h1,h2,h3⟩:=slice_av (d:=d) hc.1 hc.2 hl hel fun cs x hx=>ih e k1 hn nn cs x hx
       refine ⟨rfl,fun i k' hk=>?_⟩
       cases i with
       | succ i=>simp at hk
       | zero =>
        simp at hk; subst hk
        obtain ⟨b,o,sp⟩:=a
        rcases Nat.eq_zero_or_pos m with h0 | h0
        ·subst h0
         obtain rfl:len=0:=by omega
         exact ⟨_,.s ⟨b,o,none⟩ 0 0 (0*k1.length) (rowF k1.length fun _=>[]),rfl,⟨b,o,0,0,fun _=>[],rfl,by omega,by omega,fun i hi=>absurd hi (by omega)⟩,.inr ⟨rfl,rfl,_,rfl⟩,fun h0=>absurd h0 (by omega)⟩
        ·obtain ⟨rfl,hb⟩:=h1 h0
         have hle:len*k1.length≤m*k1.length:=Nat.mul_le_mul_right _ hl
         exact ⟨_,.s ⟨b,o,none⟩ len m (len*k1.length) (rowF k1.length F),rfl,⟨b,o,len,m,F,rfl,hl,hmax,fun i hi=>h2 i (by omega)⟩,.inl rfl,fun _=>⟨hb,fun x=>x,fun i hi=>h3 i (by omega)⟩⟩
    case struct fs =>
     cases hf:nestF P (nest P d) fs.toList 0 with
     | none=>rw [hf] at h; cases h
     | some k1 =>
      rw [hf] at h
      simp only at h
      split at h
      ·rename_i hc
       cases h
       have hx':(if cs.length=P.cellsOf t then (fs.toList.mapM fun f=>DataW.trod enc P w 0 (fun _=>true) true fuel f.type ((cs.drop f.offset).take (P.cellsOf f.type))).map fun xs=>((DataW.agg (xs.map (·.1)),xs.flatMap (·.2)):DataW H × List MemPlace) else none)=some x:=by
        rw [← hx]; simp only [DataW.trod,hu]
       split at hx'
       ·rename_i hl
        rw [Option.map_eq_some_iff] at hx'
        obtain ⟨xs,hxs,_⟩:=hx'
        refine ⟨by rw [hl,hc],fun i k hk=>?_⟩
        obtain ⟨v,a,h1,h2,h3⟩:=nestF_fits (enc:=enc) (w:=w) (fuel:=fuel) (fun t ks h cs x hx=>ih t ks h fuel cs x hx) fs.toList 0 _ cs xs hf hxs i k hk
        exact ⟨v,a,by simpa using h1,h2.up,h3⟩
       ·cases hx'
      ·cases h
def SlInN (w:World) (sz:Nat) (v:Value) (n:Nat) (F:Nat→List AV):Prop :=
 n≤9223372036854775807∧∃ r:Nat × Nat × Nat,∀ (E:Emb) (k:Nat),E[k]?=some r→VR E (.slice (some ⟨k,0,none⟩) n n) v∧ArgAt (fun _=>False) w E k (n*sz) (rowF sz F)
theorem open_inN {t e:TypeId} {d:Nat} {ks:List CN} {v:Value} {dd:DataW H} {p:List MemPlace} (ht:P.underlying t=some (.slice e)) (hk:nest P d e=some ks) (hc:P.cellsOf e=ks.length) (hpos:0<ks.length)
  (hv:∃ a len cap,v=.slice a len cap) (h:DataW.Trod enc P w 0 (fun _=>true) true t v dd p):∃ n F,SlInN w ks.length v n F∧∀ i,i<n→(F i).length=ks.length∧∀ (j:Nat) (k:CN),ks[j]?=some k→∃ a,(F i)[j]?=some a∧CnOk d k a:=by
 obtain ⟨a0,len,cap,rfl⟩:=hv
 obtain ⟨fuel,hf⟩:=h
 have hf':DataW.trod enc P w 0 (fun _=>true) true fuel t [.slice a0 len cap]=some (dd,p):=hf
 rcases open_slice ht hf' with ⟨h0,_⟩ | ⟨a,len',cap',m,nn,D,Pl,h0,_,hl,hm,hmm,hx,hel⟩
 ·cases h0
  exact ⟨0,fun _=>[],⟨by omega,(0,0,0),fun E k hE=>⟨⟨rfl,_,hE,.inr ⟨rfl,rfl,_,rfl⟩⟩,fun h0=>by omega⟩⟩,fun i hi=>absurd hi (by omega)⟩
 ·cases h0
  have hm':m=cap:=by rw [hmm]; simp
  subst hm'
  have hmax:len≤9223372036854775807:=by unfold maxLen at hm; omega
  obtain ⟨F,h1,h2,h3⟩:=slice_av (d:=d) hc hpos hl hel fun cs x hx=>nest_fits d e ks hk nn cs x hx
  obtain ⟨b,o,sp⟩:=a
  rcases Nat.eq_zero_or_pos m with hm0 | hm0
  ·subst hm0
   have hl0:len=0:=by omega
   subst hl0
   exact ⟨0,F,⟨by omega,(0,0,0),fun E k hE=>⟨⟨rfl,_,hE,.inr ⟨rfl,rfl,_,rfl⟩⟩,fun h0=>by omega⟩⟩,fun i hi=>absurd hi (by omega)⟩
  ·obtain ⟨rfl,hb⟩:=h1 hm0
   have hle:len*ks.length≤m*ks.length:=Nat.mul_le_mul_right _ hl
   exact ⟨len,F,⟨hmax,(b,o,m-len),fun E k hE=>⟨⟨rfl,_,hE,.inl ⟨_,_,rfl,.inl ⟨by simp,by simp; omega⟩⟩⟩,fun h0=>⟨_,hE,hb,fun x=>x,fun i hi=>h3 i (by omega)⟩⟩⟩,fun i hi=>h2 i (by omega)⟩
end
end Go.Tum
end
section
namespace Go.Tum
open Go
structure GE where
 id:Int
 xs:List Int
 p:Nat
 o:Nat
 c:Nat
 z:Value
 born:Nat
def GE.sv (e:GE):Value:=match e.xs with
 | []=>e.z
 | _=>.slice (some ⟨e.p,e.o,none⟩) e.xs.length e.c
def ge (e:GE):Int × Value × Nat:=(e.id,e.sv,e.born)
theorem ge_born (e:GE) (b:Nat):ge { e with born:=b }=(e.id,e.sv,b):=rfl
end Go.Tum
end
section
namespace Go.Tum
open Go
section
variable {P:Program} {n0:NA} {l l1:Env} {L L1 Lc:LH} {T T1:Taken} {K:Env→LH→Prop} {ss r:List Step} {d:Option Nat} {g:Option (Nat × Bool)} {pend:List Nat}
theorem cAr {A:Args} {v1 v2:Value} {L2 K2:LH} {f:FuncId} {args:List Operand} {vs us:List Value} (φ:List Nat) (ht:TrK P A (seqN 0 Lc.length) f us Lc (fun v K=>v=v1∧K=L2)) (hd:handed φ (seqN 0 Lc.length) n0.A A) (hn:nE (dpush d v2 l1) fun l=>nL K2 fun L=>LSt P n0 r K l T1 L) (h:arun [] ss l T L=(.e d g (.call f args) pend::r,l1,T1,L1):=by exact rfl) (hg:gw g l1=some true:=by exact rfl)
  (hv:lvs l1 args=some vs:=by exact rfl) (he:us.map (rnV L1.length φ)=vs:=by exact rfl) (h1:φ.Nodup:=by decide) (h2:partL L1 φ φ Lc:=by repeat' (first|exact trivial|refine ⟨rfl,?_⟩ | fail)) (h3:rnV (L1.length+L2.length) (phi2 φ L1.length L2) v1=v2:=by exact rfl) (h4:joinQ φ L1 L2=K2:=by exact rfl)
  (hc:chkP P n0 T1 K2 pend:=by repeat' (first|exact trivial|refine ⟨⟨qsafe_ok (st:=[]) rfl,Sure.of rfl⟩,?_⟩ | fail)):LSt P n0 ss K l T L :=
 S_E [] h hg ((EW.callA φ ht hv he (Part.of h1 h2) hd).mono fun v K ⟨v',L',⟨h3',h4'⟩,h5',h6'⟩=>(by subst h3'; subst h4'; exact ⟨h5'.trans h3,h6'.trans ((joinQ_eq h1).trans h4)⟩:v=v2∧K=K2)) (by rintro _ _ ⟨rfl,rfl⟩; exact ⟨hc,LSt.nf hn⟩)
end
end Go.Tum
end
section
namespace Go.Tum
open Go
theorem L_mid {P:Program} {n0:NA} {a:MC} {Q:Exit→Env→LH→Prop} {K':Env→LH→Prop} {l:Env} {L:LH} (K:Env→LH→Prop) (ha:LWp P n0 a (thenL (Nx n0 K) Q) l L) (hb:∀ l L,K l L→K' l L):LWp P n0 a (thenL (Nx n0 K') Q) l L:=by
 refine ha.mono fun e l L h=>?_
 cases e with
 | normal=>exact Nx.mono h hb
 | ret=>exact h
 | exit i=>exact h
 | goto i=>exact h
 | panic c=>exact h
 | outgrown=>exact h
section
variable {P:Program} {n0:NA} {l:Env} {L:LH}
theorem QY.slcR {x:Operand} {hi:Option Operand} {size b o s n c hi':Nat} (hx:lv l x=some (.slice (some ⟨b,o,some s⟩) n c)) (h2:lbound l hi n=some hi') (h4:hi'≤c) :
  QY P n0 L l (.slc x none hi size) (.slice (some ⟨b,o,some s⟩) hi' c):=by
 refine QY.of ?_
 have h1:lbound l none 0=some 0:=rfl
 have e1:Nat.ble 0 hi'=true:=Nat.ble_eq_true_of_le (Nat.zero_le _)
 have e2:Nat.ble hi' c=true:=Nat.ble_eq_true_of_le h4
 simp only [lq,hx,h1,h2,e1,e2,Bool.and_self,cond_true]
 rfl
end
end Go.Tum
end
section
namespace Go.Tum
open Go Go.RowKit Go.Sort
theorem rowsC_int:∀ xs:List Int,rowsC intC xs=xs.map (Value.int .i64)
 | []=>rfl
 | x::r=>by simp [rowsC,intC,rowsC_int r]
theorem rowsC_nil_iff {xs:List Int}:rowsC intC xs=[]↔xs=[]:=by rw [rowsC_int]; simp
section
variable {P:Program} {L:LH} {f:FuncId} {vs:List Value}
def GivesRow (P:Program) (f:FuncId) (args:Array Value) (t:TypeId) (zs:List Int) (w:World):Prop :=
 Calls P f args w fun e w'=>∃ v,e=.returned v∧w'.ownsRow w.heap.size t 1 v zs.length (zs.map (Value.int .i64))∧(v=.slice none 0 0↔zs=[])∧Below w.heap.size w w'
theorem Rep.rowNew {X:Nat→Prop} {w0 w wr:World} {E:Emb} {args:Array Value} {t:TypeId} {zs:List Int} (hR:Rep X w0 E L w) (hs:Sim wr w) (h:GivesRow P f args t zs wr) :
  Calls P f args wr fun e w'=>∃ w1,Sim w' w1∧∃ v',e=.returned v'∧∃ E',Tum.Ext E E'∧VR E' (.slice (some ⟨L.length,0,none⟩) zs.length zs.length) v'∧Rep X w0 E' (L++[.gro 1 (rowsC intC zs)]) w1:=by
 refine Calls.mono h ?_
 rintro e w' ⟨v,rfl,hrow,hnil,hb⟩
 have hf:Fr (fun _=>False) w w':=⟨by rw [← hs.heap]; exact hb.size,fun b hb' _=>by rw [← hs.heap]; exact hb.block b (by rw [hs.heap]; exact hb'),hb.os.trans hs.os,hb.tape.trans hs.tape,hb.output.trans hs.output⟩
 refine ⟨w',Sim.refl w',v,rfl,?_⟩
 by_cases hz:zs=[]
 ·subst hz
  obtain rfl:=hnil.2 rfl
  exact ⟨E++[(0,0,0)],Ext.push E _,⟨rfl,_,hR.last _,.inr ⟨rfl,rfl,none,rfl⟩⟩,hR.push hf (fun _ h=>h.elim) (.inl ⟨rfl,rfl⟩)⟩
 ·rcases hrow.2 with ⟨rfl,h0⟩ | ⟨g,cap,cur,rfl,hbase,hgb,h1,h2,h3,h4⟩
  ·exact absurd (hnil.1 rfl) hz
  ·have hg:=(Array.getElem?_eq_some_iff.1 hgb).1
   rw [hs.heap] at hbase
   refine ⟨E++[(g,0,cap-zs.length)],Ext.push E _,⟨rfl,_,hR.last _,.inl ⟨_,_,rfl,.inl ⟨by simp,by show cap=zs.length+(cap-zs.length); omega⟩⟩⟩,hR.push hf (fun b hb=>?_) (.inr ⟨fun e=>hz (rowsC_nil_iff.1 e),by decide,cur.toList,⟨_,hgb⟩,?_,?_⟩)⟩
   ·have:b=g:=by
     revert hb
     cases hq:rowsC intC zs with
     | nil=>exact absurd (rowsC_nil_iff.1 hq) hz
     | cons x r=>exact fun h=>h
    subst this
    exact ⟨hbase,hg⟩
   ·rw [rowsC_int,List.length_map]
    simpa using h4
   ·rw [rowsC_int,List.length_map]
    simp only [Array.length_toList,h3]
    omega
theorem Tr.rowNew {t:TypeId} {zs:List Int} (hc:callable P f=true) (h:∀ (X:Nat→Prop) (w0 w:World) (E:Emb) (vs':List Value),Rep X w0 E L w→L2 (VR E) vs vs'→∀ wr,Sim wr w→GivesRow P f vs'.toArray t zs wr) :
  Tr P f vs L (fun v K=>v=.slice (some ⟨L.length,0,none⟩) zs.length zs.length∧K=L++[.gro 1 (rowsC intC zs)]):=by
 intro X w0 w E vs' hA hR hv
 refine ⟨hc,fun wr hs=>(hR.rowNew hs (h X w0 w E vs' hR hv wr hs)).mono ?_⟩
 rintro e w' ⟨w1,h1,v',rfl,E',h2,h3,h4⟩
 exact ⟨w1,h1,v',rfl,E',_,_,fun k r _ hk=>h2 k r hk,by simp,h3,h4,rfl,rfl⟩
def sortZ (xs:List Int):List Int:=xs.mergeSort fun x y=>decide (x≤y)
theorem sortZ_len (xs:List Int):(sortZ xs).length=xs.length:=List.length_mergeSort ..
end
end Go.Tum
end
section
namespace Go.Tum
open Go Go.RowKit Go.Sort Go.Maps Go.WideShapes
section
variable {P:Program}
theorem ownsMap_of {k:TypeId} (hk:P.underlying k=some (.int .i64)) {w:World} {b c:Nat} {m:List (Int × Value × Nat)} (hM:Mp (Value.int .i64) w b m c) (hw:Wf m c) (hb:∀ x∈m,(Lit.int .i64 x.1).wf=true) (hl:m.length≤maxLen) :
  ∃ D0:DataW Unit,w.ownsMap P k (fun _=>some (.lit (.bool true),[])) b m.length D0∧(intKeys D0).Perm (m.map (·.1))∧Maps.size D0=m.length:=by
 have hrd:∀ x∈m,WideElems.rd (H:=Unit) P k (fun _=>some (.lit (.bool true),[])) (mkE (Value.int .i64) x)=some (.int .i64 x.1,.lit (.bool true)):=fun x hx=>by
  unfold WideElems.rd
  rw [show (mkE (Value.int .i64) x).key=.int .i64 x.1 from rfl,keyOf_int_mk hk (hb x hx)]
  rfl
 have hrg:m.map (fun x=>WideElems.rg (H:=Unit) P k (fun _=>some (.lit (.bool true),[])) (mkE (Value.int .i64) x))=m.map fun x=>(Lit.int .i64 x.1,DataW.lit (.bool true)):=by
  apply List.map_congr_left
  intro x hx
  unfold WideElems.rg
  rw [hrd x hx]; rfl
 have hrg':((m.map (mkE (Value.int .i64))).toArray.toList.map (WideElems.rg (H:=Unit) P k (fun _=>some (.lit (.bool true),[]))))=m.map fun x=>(Lit.int .i64 x.1,DataW.lit (.bool true)):=by
  rw [← hrg]; simp [Function.comp]
 refine ⟨_,⟨_,_,hM,⟨by simpa using hl,⟨fun x hx=>?_,?_,?_⟩,fun x hx=>?_⟩,by simp,rfl⟩,?_,?_⟩
 ·simp only [List.mem_map] at hx
  obtain ⟨y,hy,rfl⟩:=hx
  exact hw.past y hy
 ·have:=hw.borns
  simp only [List.map_map]
  exact this
 ·have:=hw.keys
  simp only [List.map_map]
  rw [show ((fun x:MapEntry=>x.key) ∘ mkE (Value.int .i64))=(Value.int .i64) ∘ fun x:Int × Value × Nat=>x.1 from rfl,← List.map_map]
  rw [List.nodup_iff_pairwise_ne,List.pairwise_map]
  exact (List.nodup_iff_pairwise_ne.1 this).imp fun h e=>h (by cases e; rfl)
 ·simp only [List.mem_map] at hx
  obtain ⟨y,hy,rfl⟩:=hx
  exact ⟨_,hrd y hy⟩
 ·rw [hrg']
  unfold intKeys
  refine ((sorted_perm _).map _).trans ?_
  rw [List.map_map]
  exact .refl _
 ·rw [hrg']
  show List.length _=_
  rw [(sorted_perm _).length_eq]
  simp
section
variable {f:FuncId} {g:Nat} {t:TypeId}
def SortedC (P:Program) (f:FuncId) (g:Nat) (t:TypeId):Prop:=∀ (b0 b1 c:Nat) (m:List (Int × Value × Nat)) (w:World),Mp (Value.int .i64) w b0 m c→Wf m c→(∀ x∈m,(Lit.int .i64 x.1).wf=true)→m.length≤1000→w.cell? ⟨b1,0,none⟩=some (.map (some b0))→b1<w.heap.size →
 GivesRow P f #[.func (.func g) #[] #[.pointer (some ⟨b1,0,none⟩)]] t (sortZ (m.map (·.1))) w
end
end
end Go.Tum
end
section
namespace Go.Proofs.Ytpnjahijpdfcgaa
open Go Go.Proofs Go.Shelf Go.Tum Go.RowKit Go.Maps Go.Sort
def keysA_ren:Ren:=⟨fun | 7=>34 | 10=>44 | n=>n,fun | 23=>57 | 26=>3 | 3=>3 | 28=>73 | 0=>0 | 27=>72 | 33=>70 | 4=>4 | n=>n,fun | n=>n⟩
theorem keysA:SlLaysZI.n7 Try.prog keysA_ren:={
 mixed:=by kernel_rfl
 f7:=⟨Try.f34.name,by decide,Try.func34.trans (congrArg some (by kernel_rfl))⟩
 f10:=⟨Try.f44.name,by decide,Try.func44.trans (congrArg some (by kernel_rfl))⟩
 t0:=Try.underlying0
 a0:=Try.isAgg0
 z0:=Try.sizeOf0
 v0:=Try.zeroValue0
 t4:=Try.underlying4
 a4:=Try.isAgg4
 z4:=Try.sizeOf4
 v4:=Try.zeroValue4
 t23:=Try.underlying57
 a23:=Try.isAgg57
 z23:=Try.sizeOf57
 v23:=Try.zeroValue57
 t26:=Try.underlying3
 a26:=Try.isAgg3
 z26:=Try.sizeOf3
 v26:=Try.zeroValue3
 t27:=Try.underlying72
 a27:=Try.isAgg72
 z27:=Try.sizeOf72
 v27:=Try.zeroValue72
 t28:=Try.underlying73
 a28:=Try.isAgg73
 z28:=Try.sizeOf73
 v28:=Try.zeroValue73
 t33:=Try.underlying70
 a33:=Try.isAgg70
 z33:=Try.sizeOf70
 v33:=Try.zeroValue70 }
def sortedA_ren:Ren:=⟨fun | 6=>33 | 8=>42 | 9=>43 | 11=>47 | 13=>49 | 12=>48 | 23=>60 | 24=>61 | 14=>51 | 15=>52 | 16=>53 | 17=>54 | 18=>55 | 19=>56 | 20=>57 | 21=>58 | 22=>59 | 25=>62 | 26=>63 | 27=>64 | 28=>65 | 29=>66 | 30=>67 | 31=>68 | n=>n,fun | 26=>3 | 28=>73 | 24=>43 | 0=>0 | 3=>3 | 37=>77 | 48=>94 | 50=>22 | 4=>4 | 40=>88 | 39=>87 | 45=>60 | 5=>5 | 9=>9 | 51=>96 | 55=>100 | 57=>102 | 58=>103 | 33=>70 | n=>n,fun | n=>n⟩
theorem sortedA:SlLaysZI.n6 Try.prog sortedA_ren:={
 mixed:=by kernel_rfl
 f6:=⟨Try.f33.name,by decide,Try.func33.trans (congrArg some (by kernel_rfl))⟩
 f8:=⟨Try.f42.name,by decide,Try.func42.trans (congrArg some (by kernel_rfl))⟩
 f11:=⟨Try.f47.name,by decide,Try.func47.trans (congrArg some (by kernel_rfl))⟩
 t0:=Try.underlying0
 a0:=Try.isAgg0
 z0:=Try.sizeOf0
 v0:=Try.zeroValue0
 t24:=Try.underlying43
 a24:=Try.isAgg43
 z24:=Try.sizeOf43
 v24:=Try.zeroValue43
 t26:=Try.underlying3
 a26:=Try.isAgg3
 z26:=Try.sizeOf3
 v26:=Try.zeroValue3
 t28:=Try.underlying73
 a28:=Try.isAgg73
 z28:=Try.sizeOf73
 v28:=Try.zeroValue73
 i26:=by kernel_rfl }
def sortA_ren:Ren:=⟨fun | 5=>43 | 8=>49 | 7=>48 | 19=>60 | 20=>61 | 10=>51 | 11=>52 | 12=>53 | 13=>54 | 14=>55 | 15=>56 | 16=>57 | 17=>58 | 18=>59 | 30=>62 | 31=>63 | 32=>64 | 33=>65 | 34=>66 | 35=>67 | 40=>68 | n=>n,fun | 23=>43 | 25=>3 | 3=>3 | 32=>77 | 22=>43 | 0=>0 | 44=>94 | 46=>22 | 4=>4 | 36=>88 | 35=>87 | 41=>60 | 5=>5 | 9=>9 | 53=>96 | 57=>100 | 63=>102 | 64=>103 | n=>n,fun | n=>n⟩
theorem sortA:SlLaysM.n5 Try.prog sortA_ren:={
 mixed:=by kernel_rfl
 f5:=⟨Try.f43.name,by decide,Try.func43.trans (congrArg some (by kernel_rfl))⟩
 f7:=⟨Try.f48.name,by decide,Try.func48.trans (congrArg some (by kernel_rfl))⟩
 f8:=Try.func49.trans (congrArg some (by kernel_rfl))
 f10:=⟨Try.f51.name,by decide,Try.func51.trans (congrArg some (by kernel_rfl))⟩
 f11:=⟨Try.f52.name,by decide,Try.func52.trans (congrArg some (by kernel_rfl))⟩
 f12:=⟨Try.f53.name,by decide,Try.func53.trans (congrArg some (by kernel_rfl))⟩
 f13:=⟨Try.f54.name,by decide,Try.func54.trans (congrArg some (by kernel_rfl))⟩
 f14:=⟨Try.f55.name,by decide,Try.func55.trans (congrArg some (by kernel_rfl))⟩
 f15:=⟨Try.f56.name,by decide,Try.func56.trans (congrArg some (by kernel_rfl))⟩
 f16:=⟨Try.f57.name,by decide,Try.func57.trans (congrArg some (by kernel_rfl))⟩
 f17:=⟨Try.f58.name,by decide,Try.func58.trans (congrArg some (by kernel_rfl))⟩
 f18:=⟨Try.f59.name,by decide,Try.func59.trans (congrArg some (by kernel_rfl))⟩
 f19:=Try.func60.trans (congrArg some (by kernel_rfl))
 f20:=Try.func61.trans (congrArg some (by kernel_rfl))
 f30:=⟨Try.f62.name,by decide,Try.func62.trans (congrArg some (by kernel_rfl))⟩
 f31:=Try.func63.trans (congrArg some (by kernel_rfl))
 f32:=Try.func64.trans (congrArg some (by kernel_rfl))
 f33:=⟨Try.f65.name,by decide,Try.func65.trans (congrArg some (by kernel_rfl))⟩
 f34:=⟨Try.f66.name,by decide,Try.func66.trans (congrArg some (by kernel_rfl))⟩
 f35:=⟨Try.f67.name,by decide,Try.func67.trans (congrArg some (by kernel_rfl))⟩
 f40:=⟨Try.f68.name,by decide,Try.func68.trans (congrArg some (by kernel_rfl))⟩
 t0:=Try.underlying0
 a0:=Try.isAgg0
 z0:=Try.sizeOf0
 v0:=Try.zeroValue0
 t3:=Try.underlying3
 a3:=Try.isAgg3
 z3:=Try.sizeOf3
 v3:=Try.zeroValue3
 t4:=Try.underlying4
 a4:=Try.isAgg4
 z4:=Try.sizeOf4
 v4:=Try.zeroValue4
 t5:=Try.underlying5
 a5:=Try.isAgg5
 z5:=Try.sizeOf5
 v5:=Try.zeroValue5
 t9:=Try.underlying9
 a9:=Try.isAgg9
 z9:=Try.sizeOf9
 v9:=Try.zeroValue9
 t22:=Try.underlying43
 a22:=Try.isAgg43
 z22:=Try.sizeOf43
 v22:=Try.zeroValue43
 t23:=Try.underlying43
 a23:=Try.isAgg43
 z23:=Try.sizeOf43
 v23:=Try.zeroValue43
 t25:=Try.underlying3
 a25:=Try.isAgg3
 z25:=Try.sizeOf3
 v25:=Try.zeroValue3
 t32:=Try.underlying77
 a32:=Try.isAgg77
 z32:=Try.sizeOf77
 v32:=Try.zeroValue77
 t35:=Try.underlying87
 a35:=Try.isAgg87
 z35:=Try.sizeOf87
 v35:=Try.zeroValue87
 t36:=Try.underlying88
 a36:=Try.isAgg88
 z36:=Try.sizeOf88
 v36:=Try.zeroValue88
 t41:=Try.underlying60
 a41:=Try.isAgg60
 z41:=Try.sizeOf60
 v41:=Try.zeroValue60
 t44:=Try.underlying94
 a44:=Try.isAgg94
 z44:=Try.sizeOf94
 v44:=Try.zeroValue94
 t46:=Try.underlying22
 a46:=Try.isAgg22
 z46:=Try.sizeOf22
 v46:=Try.zeroValue22
 t53:=Try.underlying96
 a53:=Try.isAgg96
 z53:=Try.sizeOf96
 v53:=Try.zeroValue96
 t57:=Try.underlying100
 a57:=Try.isAgg100
 z57:=Try.sizeOf100
 v57:=Try.zeroValue100
 t63:=Try.underlying102
 a63:=Try.isAgg102
 z63:=Try.sizeOf102
 v63:=Try.zeroValue102
 t64:=Try.underlying103
 a64:=Try.isAgg103
 z64:=Try.sizeOf103
 v64:=Try.zeroValue103 }
theorem sortsA (m:Nat):AnyZI.SortsIn Try.prog sortedA_ren Fence.wide m :=
 ⟨fun blk off cap ss W hH hblk hsz=>callsIn_wide.2 (AnyM.slices_Sort_int sortA blk off cap ss W hH hblk hsz),fun p cap W=>callsIn_wide.2 (AnyM.slices_Sort_int_none sortA p cap W)⟩
theorem keysA_s:SortedC Try.prog 33 44 3:=by
 intro b0 b1 c m w hM hW hb hl hcell hlt
 obtain ⟨D0,hown,hperm,hsz⟩:=ownsMap_of Try.underlying3 hM hW hb (Nat.le_trans hl (by decide))
 have hseq:SeqGives Fence.wide 2 Try.prog 44 #[.pointer (some ⟨b1,0,none⟩)] encZ (fun ss=>ss.Perm (intKeys D0)) (Maps.size D0) w :=
  AnyZI.keys_gives (ρ:=keysA_ren) { keysA with } Fence.wide _ trivial rfl (by omega) b1 b0 m.length D0 w hlt hcell hown
 have cS:=AnyZI.sorted_in sortedA Fence.wide 5 trivial trivial trivial trivial rfl (by omega) (sortsA _) (enters_of Try.func43 (by kernel_rfl) rfl) 44 #[.pointer (some ⟨b1,0,none⟩)] trivial (enters_of Try.func44 (by kernel_rfl) rfl) _ _ (by rw [hsz]; exact Nat.le_trans hl (by decide)) (by rw [hsz]; omega) _ hseq
 change CallsIn _ _ Try.prog 33 _ _ _ at cS
 refine Calls.mono (callsIn_wide.1 cS) ?_
 rintro e w' ⟨v,ss,rfl,hS,hrow,hnil,hbl⟩
 have hp:ss.Perm (m.map (·.1)):=hS.trans hperm
 have hz:sortZ (m.map (·.1))=ss.mergeSort (fun x y=>decide (x≤y)):=(mergeSort_of_perm_i hp).symm
 refine ⟨v,rfl,?_,?_,hbl⟩
 ·rw [hz,List.length_mergeSort]; exact hrow
 ·rw [hnil]
  constructor
  ·rintro rfl; rw [hz]; exact List.mergeSort_nil
  ·intro h
   rw [hz] at h
   have:=congrArg List.length h
   rw [List.length_mergeSort] at this
   exact List.length_eq_zero_iff.1 this
end Go.Proofs.Ytpnjahijpdfcgaa
end
section
namespace Go.Proofs.Ytpnjahijpdfcgaa
open Go Go.Proofs Go.Shelf Go.Tum Go.RowKit Go.Maps Go.Sort
attribute [local go_sem] Oper.semAt_some
set_option maxRecDepth 100000 in
set_option maxHeartbeats 2000000 in
theorem all_rows (b0 bs os c:Nat) (m:List (Int × Value × Nat)) (w:World) (hM:Mp (Value.int .i64) w b0 m c) (hW:Wf m c) (hb:∀ x∈m,(Lit.int .i64 x.1).wf=true) (hl:m.length≤1000) (hcell:w.cell? ⟨bs,os+2,none⟩=some (.map (some b0))) :
  GivesRow Try.prog 12 #[.pointer (some ⟨bs,os,none⟩)] 3 (sortZ (m.map (·.1))) w:=by
 have hbl:b0<w.heap.size:=hM.lt
 have hM2:Mp (Value.int .i64) (w.alloc (.cells #[.map (some b0)] 57)) b0 m c:=(Below.heap_alloc _ _ b0 hbl).trans hM
 have h2:=keysA_s b0 w.heap.size c m (w.alloc (.cells #[.map (some b0)] 57)) hM2 hW hb hl (by simp) (by simp)
 have cK:∀ mb W,CallsIn Fence.wide 5 Try.prog 34 #[.map mb] W fun e w'=>e=.returned (.func (.func 44) #[] #[.pointer (some ⟨W.heap.size,0,none⟩)])∧w'=W.alloc (.cells #[.map mb] 57):=fun mb W=>AnyZI.keys_in keysA Fence.wide 5 trivial rfl mb W
 have cS:=callsIn_wide (n:=5) |>.2 h2
 refine (callsIn_wide (n:=6)).1 ?_
 have hfK:Fence.wide.fn 34:=trivial
 have hfS:Fence.wide.fn 33:=trivial
 refine callsIn_of_wp Try.func12 rfl trivial ?_ rfl
 simp only [Try.ntmps12,List.size_toArray,List.length_cons,List.length_nil,Nat.reduceAdd,Nat.reduceSub,Array.replicate_succ,Array.replicate_zero,List.push_toArray,List.append_toArray,List.nil_append,List.cons_append]
 gi_wp2_with (first
  | (gi_at_call 34; refine (cK _ _).mono ?_; rintro e w' ⟨rfl,rfl⟩)
  | (gi_at_call 33; refine cS.mono ?_; rintro e w' ⟨v,rfl,hrow,hnil,hbl2⟩))
 go_ret
 exact ⟨v,rfl,ownsRow_base_a hrow (by simp),hnil,((Below.refl _ w).alloc (Nat.le_refl _) _).trans (hbl2.mono (by simp))⟩
end Go.Proofs.Ytpnjahijpdfcgaa
end
section
namespace Go.Proofs.Ytpnjahijpdfcgaa
open Go Go.Tum Go.Tum.Base
set_option maxRecDepth 4000
theorem all_tr (key:BitVec 64) (bs:Bytes) (G:Great) (c:Nat) (hb:∀ x∈G,(Lit.int .i64 x.1).wf=true) (hl:G.length≤1000):Tr Try.prog 12 [ptr 0] (SetL key bs G c) (fun v K=>v=.slice (some ⟨4,0,none⟩) G.length G.length∧K=SetL key bs G c++[.gro 1 (rowsC intC (sortZ (G.map (·.1))))]):=by
 have hln:(sortZ (G.map (·.1))).length=G.length:=by rw [sortZ_len,List.length_map]
 have:=Tr.rowNew (P:=Try.prog) (L:=SetL key bs G c) (f:=12) (vs:=[ptr 0]) (t:=3) (zs:=sortZ (G.map (·.1))) (by kernel_rfl) ?_
 ·rw [hln] at this; exact this
 intro X w0 w E vs' hR hv wr hs
 obtain ⟨v',rfl,hv'⟩:∃ v',vs'=[v']∧VR E (ptr 0) v':=by
  cases vs' with
  | nil=>exact hv.elim
  | cons a q=>cases q with
   | nil=>exact ⟨a,rfl,hv.1⟩
   | cons _ _=>exact hv.2.elim
 obtain ⟨_,rfl,_,r,hr,rfl⟩:=hv'
 obtain ⟨cs,⟨t,hcs⟩,h1,h2,h3⟩:=hR.blk 0 _ r rfl hr
 obtain ⟨mv,hmv,hmr⟩:=h1.get (i:=2) rfl
 obtain ⟨q,hq,rfl⟩:=hmr
 obtain ⟨h4,h5⟩:=hR.blk 3 _ q rfl hq
 have hcell:wr.cell? ⟨r.1,0+r.2.1+2,none⟩=some (.map (some q.1)):=by
  have hcs':wr.heap[r.1]?=some (.cells cs.toArray t (0,0)):=by rw [hs.heap]; exact hcs
  simp only [World.cell?,hcs']
  simp at hmv
  simpa using hmv
 have:=all_rows q.1 r.1 (0+r.2.1) c (mI G) wr (h4.sim hs) h5 (fun x hx=>by
  obtain ⟨y,hy,rfl⟩:=List.mem_map.1 hx
  exact hb y hy) (by simpa [mI] using hl) hcell
 rw [show (mI G).map (·.1)=G.map (·.1) by simp [mI]] at this
 exact this
theorem size_tr (key:BitVec 64) (bs:Bytes) (G:Great) (c:Nat) (p:Int):Tr Try.prog 14 [ptr 0,.int .i64 p] (SetL key bs G c) (fun v K=>v=.int .i64 (gget G p)∧K=SetL key bs G c):=by
 refine Tr.of row_large_Set_Size_ok rfl ?_
 repeat' (first|refine qN ?_|refine dN ?_|refine d0 ?_|refine qT ?_|refine qU ?_|refine qL ?_|refine qK ?_|refine iF (fun h=>?_) (fun h=>?_)|refine S_Q [] rfl rfl (QY.iget rfl (by kernel_rfl) rfl rfl rfl rfl) ?_|refine aI (hn:=?_)|refine qR ?_|refine qS ?_|exact ⟨rfl,rfl⟩|fail)
 exact L_ret (RetQ.pick [0,1,2,3] rfl rfl rfl rfl ⟨rfl,rfl⟩)
end Go.Proofs.Ytpnjahijpdfcgaa
end
section
namespace Go.Proofs.Ytpnjahijpdfcgaa
open Go Go.Tum Go.Tum.Base
set_option maxRecDepth 4000
theorem largeMake_arg (key:BitVec 64) (bs:Bytes) (G:Great) (c:Nat) (p n:Int) (h:greatC n=false∨p<0) :
  Tr Try.prog 7 [ptr 0,.int .i64 p,.int .i64 n] (SetL key bs G c) (fun v K=>v=.int .i64 1∧K=SetL key bs G c):=by
 have hP:=Pages_tr n
 cases hg:greatC n <;> rw [hg] at hP
 ·refine Tr.of row_large_Set_Make_ok rfl ?_
  repeat' (first|refine qN ?_|refine dN ?_|refine dR ?_|refine d0 ?_|refine qB ?_|refine rT ?_|refine qT ?_|refine qU ?_|refine qL ?_|refine qK ?_|refine iF (fun h=>?_) (fun h=>?_)|refine cP [] (hP) ?_|refine aS ?_|refine aI (hn:=?_)|refine aD ?_|refine aM ?_|refine sP 22 (fun h=>?_) (fun h=>?_)|refine qR ?_|refine qS ?_|exact ⟨rfl,rfl⟩|fail)
 ·have hp:p<0:=by rcases h with h | h; (rw [hg] at h; cases h); exact h
  refine Tr.of row_large_Set_Make_ok rfl ?_
  repeat' (first|refine qN ?_|refine dN ?_|refine dR ?_|refine d0 ?_|refine qB ?_|refine rT ?_|refine qT ?_|refine qU ?_|refine qL ?_|refine qK ?_|refine iF (fun h=>?_) (fun h=>?_)|refine cP [] (hP) ?_|refine aS ?_|refine aI (hn:=?_)|refine aD ?_|refine aM ?_|refine sP 22 (fun h=>?_) (fun h=>?_)|refine qR ?_|refine qS ?_|exact ⟨rfl,rfl⟩|fail)
  all_goals (exfalso; omega)
theorem largeMake_range (key:BitVec 64) (bs:Bytes) (N:Nat) (hN:bs.length=256*N) (hN2:N≤256) (G:Great) (c:Nat) (p M n:Int) (hn:greatC n=true) (hM:pagesC n=M) (hp:0≤p) (h:N<p+M) :
  Tr Try.prog 7 [ptr 0,.int .i64 p,.int .i64 n] (SetL key bs G c) (fun v K=>v=.int .i64 3∧K=SetL key bs G c):=by
 have hb:=pagesC_bd n
 have hP:=Pages_tr n
 rw [hn,hM] at hP
 refine Tr.of row_large_Set_Make_ok rfl ?_
 repeat' (first|refine qN ?_|refine dN ?_|refine dR ?_|refine d0 ?_|refine qB ?_|refine rT ?_|refine qT ?_|refine qU ?_|refine qL ?_|refine qK ?_|refine iF (fun h=>?_) (fun h=>?_)|refine cP [] (hP) ?_|refine cP [1,2] (arenaLen_tr bs) ?_|refine aS ?_|refine aI (hn:=?_)|refine aD ?_|refine aM ?_|refine sP 22 (fun h=>?_) (fun h=>?_)|refine qR ?_|refine qS ?_|exact ⟨rfl,rfl⟩|fail)
 all_goals (exfalso; omega)
theorem largeMake_there (key:BitVec 64) (bs:Bytes) (N:Nat) (hN:bs.length=256*N) (hN2:N≤256) (G:Great) (c:Nat) (hG:Small G 256) (hO:GOk G c) (p M n:Int) (hn:greatC n=true) (hM:pagesC n=M) (hp:0≤p) (hpM:p+M≤N) (hm:meetsG G p M=true) :
  Tr Try.prog 7 [ptr 0,.int .i64 p,.int .i64 n] (SetL key bs G c) (fun v K=>v=.int .i64 7∧K=SetL key bs G c):=by
 have hb:=pagesC_bd n
 have hP:=Pages_tr n
 rw [hn,hM] at hP
 have hX:=meets_tr key bs G c hG hO p M (by omega) (by omega)
 rw [hm] at hX
 refine Tr.of row_large_Set_Make_ok rfl ?_
 repeat' (first|refine qN ?_|refine dN ?_|refine dR ?_|refine d0 ?_|refine qB ?_|refine rT ?_|refine qT ?_|refine qU ?_|refine qL ?_|refine qK ?_|refine iF (fun h=>?_) (fun h=>?_)|refine cP [] (hP) ?_|refine cP [1,2] (arenaLen_tr bs) ?_|refine cP [0,1,2,3] (hX) ?_|refine aS ?_|refine aI (hn:=?_)|refine aD ?_|refine aM ?_|refine sP 22 (fun h=>?_) (fun h=>?_)|refine qR ?_|refine qS ?_|exact ⟨rfl,rfl⟩|fail)
 all_goals (exfalso; omega)
theorem largeDrop_no (key:BitVec 64) (bs:Bytes) (G:Great) (c:Nat) (p:Int) (hf:ghas G p=false) :
  Tr Try.prog 9 [ptr 0,.int .i64 p] (SetL key bs G c) (fun v K=>v=.tuple ⟨[.bool false,.int .i64 6]⟩∧K=SetL key bs G c):=by
 refine Tr.of row_large_Set_Drop_ok rfl ?_
 repeat' (first|refine qN ?_|refine dN ?_|refine dR ?_|refine d0 ?_|refine rT ?_|refine qT ?_|refine qU ?_|refine qL ?_|refine qK ?_|refine iF (fun h=>?_) (fun h=>?_)|refine aI (hn:=?_)|refine aM ?_|refine qR ?_|refine qS ?_|exact ⟨rfl,rfl⟩|fail)
 first|refine L_rs ?_|refine L_reg ?_ | skip
 refine S_Q [] rfl rfl (QY.igetok rfl (by kernel_rfl) rfl rfl rfl rfl hf) ?_
 repeat' (first|refine qN ?_|refine dN ?_|refine dR ?_|refine d0 ?_|refine rT ?_|refine qT ?_|refine qU ?_|refine qL ?_|refine qK ?_|refine iF (fun h=>?_) (fun h=>?_)|refine aI (hn:=?_)|refine aM ?_|refine qR ?_|refine qS ?_|exact ⟨rfl,rfl⟩|fail)
theorem arenaStoreA_no (bs:Bytes) (hb:bs.length≤65536) (i:Int) (x:Option Addr) (m c:Nat) (h:errIn bs.length i m≠0) :
  Tr Try.prog 11 [ptr 0,.int .i64 i,.slice x m c] (AL bs) (fun v K=>v=.int .i64 (errIn bs.length i m)∧K=AL bs):=by
 have hI:=arenaIn_tr bs hb i m
 refine Tr.of row_arena_Arena_Store_ok rfl ?_
 repeat' (first|refine qN ?_|refine dN ?_|refine dR ?_|refine d0 ?_|refine rT ?_|refine qT ?_|refine qU ?_|refine qL ?_|refine qK ?_|refine iF (fun h=>?_) (fun h=>?_)|refine cP [0,1] (hI) ?_|refine aI (hn:=?_)|refine qR ?_|refine qS ?_|exact ⟨rfl,rfl⟩|fail)
 all_goals first | done | contradiction
end Go.Proofs.Ytpnjahijpdfcgaa
end
section
namespace Go.Proofs.Ytpnjahijpdfcgaa
open Go Go.Tum Go.Tum.Base
set_option maxRecDepth 4000
structure RB where
 page:Int
 n:Int
def RB.cells (b:RB):List Value:=[.int .i64 b.page,.int .i64 b.n]
theorem RB.ok:RowOk RB.cells 2:=⟨fun _=>rfl,fun _=>rfl⟩
def RS (key:BitVec 64) (bs:Bytes) (l:List RB):LH:=[.cells 0 [.slice (some ⟨1,0,none⟩) bs.length bs.length,.int .u64 (key.toNat:Int),.slice (some ⟨2,0,none⟩) l.length l.length],BL bs,.gro 2 (rowsC RB.cells l)]
def atR (l:List RB) (p:Int):Int:=match l.findIdx? fun b=>decide (b.page=p) with
 | some i=>i
 | none => -1
theorem atR_hit {l:List RB} {p:Int} {i:Nat} {b:RB} (h:∀ (j:Nat) (c:RB),j<i→l[j]?=some c→c.page≠p) (hi:l[i]?=some b) (hb:b.page=p):atR l p=i:=by
 have:l.findIdx? (fun b=>decide (b.page=p))=some i:=by
  rw [List.findIdx?_eq_some_iff_getElem]
  obtain ⟨hlt,e⟩:=List.getElem?_eq_some_iff.1 hi
  refine ⟨hlt,by simp [e,hb],fun j hj=>?_⟩
  have:=h j _ hj (List.getElem?_eq_getElem (by omega))
  simpa using this
 unfold atR; rw [this]
theorem atR_miss {l:List RB} {p:Int} (h:∀ (j:Nat) (c:RB),j<l.length→l[j]?=some c→c.page≠p):atR l p = -1:=by
 have:l.findIdx? (fun b=>decide (b.page=p))=none:=by
  rw [List.findIdx?_eq_none_iff]
  intro x hx
  obtain ⟨j,hj⟩:=List.mem_iff_getElem?.1 hx
  have:=h j x (List.getElem?_eq_some_iff.1 hj).1 hj
  simpa using this
 unfold atR; rw [this]
set_option maxHeartbeats 1000000 in
theorem rAt_tr (key:BitVec 64) (bs:Bytes) (l:List RB) (hl:l.length≤1000) (p:Int):Tr Try.prog 31 [ptr 0,.int .i64 p] (RS key bs l) (fun v K=>v=.int .i64 (atR l p)∧K=RS key bs l):=by
 refine Tr.of row_tumbrelref08_Set_At_ok rfl ?_
 repeat' (first|refine qN ?_|refine dN ?_|refine dR ?_|refine d0 ?_|refine qB ?_|refine rT ?_|refine qT ?_|refine qU ?_|refine qL ?_|refine qK ?_|refine qF ?_|refine qE ?_|refine iF (fun h=>?_) (fun h=>?_)|refine aX ?_|refine aA ?_|refine aI (hn:=?_)|refine qR ?_|refine qS ?_|exact ⟨rfl,rfl⟩|fail)
 refine LWp.pick [1,10,11,12] [0,1,2] rfl rfl rfl (L_loop (fun q E L=>∃ i:Nat,q=l.length-i∧i≤l.length∧(∀ (j:Nat) (c:RB),j<i→l[j]?=some c→c.page≠p)∧E=[(1,.int .i64 p),(10,.slice (some ⟨2,0,none⟩) l.length l.length),(11,.int .i64 l.length),(12,.int .i64 i)]∧L=RS key bs l) l.length ⟨0,rfl,by omega,fun j c h=>by omega,rfl,rfl⟩ ?_)
 rintro q _ _ ⟨i,rfl,hi,hall,rfl,rfl⟩
 first|refine L_seq (L_rs (S_done [] rfl (Nx.goL (iF (fun h=>L_skip (Nx.goL ?_)) (fun h=>L_exit ?_)))))|refine L_rs (S_done [] rfl (Nx.goL (L_seq (iF (fun h=>L_skip (Nx.goL ?_)) (fun h=>L_exit ?_)))))
 ·have hin:i<l.length:=by omega
  obtain ⟨b,hb⟩:∃ b,l[i]?=some b:=⟨_,List.getElem?_eq_getElem (by omega)⟩
  by_cases he:b.page=p
  ·have e:=atR_hit hall hb he
   rw [e]
   repeat' (first|refine qN ?_|refine dN ?_|refine d0 ?_|refine qB ?_|refine qT ?_|refine qU ?_|refine qL ?_|refine qK ?_|refine qF ?_|refine qE ?_|refine iF (fun h=>?_) (fun h=>?_)|refine aX ?_|refine S_Q [] rfl rfl (QY.ldRow RB.ok rfl rfl hb (by decide)) ?_|refine aA ?_|refine aI (hn:=?_)|refine qR ?_|refine qS ?_|exact ⟨rfl,rfl⟩|fail)
   all_goals first | (exfalso; omega)|exact L_ret (RetQ.pick [0,1,2] rfl rfl rfl rfl ⟨rfl,rfl⟩)
  ·repeat' (first|refine qN ?_|refine dN ?_|refine dR ?_|refine d0 ?_|refine qB ?_|refine rT ?_|refine qT ?_|refine qU ?_|refine qL ?_|refine qK ?_|refine qF ?_|refine qE ?_|refine iF (fun h=>?_) (fun h=>?_)|refine aX ?_|refine S_Q [] rfl rfl (QY.ldRow RB.ok rfl rfl hb (by decide)) ?_|refine aA ?_|refine aI (hn:=?_)|refine qR ?_|refine qS ?_|exact ⟨rfl,rfl⟩|fail)
   all_goals first | (exfalso; omega)|exact Nx.pick [1,10,11,12] [0,1,2] rfl rfl rfl ⟨l.length-(i+1),by omega,i+1,rfl,by omega,(fun j c hj hc=>by
    by_cases h2:j<i
    ·exact hall j c h2 hc
    ·obtain rfl:j=i:=by omega
     rw [hb] at hc; cases hc; exact he),rfl,rfl⟩
 ·refine Nx.goL ?_
  obtain rfl:i=l.length:=by omega
  rw [atR_miss hall]
  repeat' (first|refine qN ?_|refine dN ?_|refine d0 ?_|refine qB ?_|refine qT ?_|refine qU ?_|refine qL ?_|refine qK ?_|refine qF ?_|refine qE ?_|refine iF (fun h=>?_) (fun h=>?_)|refine aX ?_|refine aA ?_|refine aI (hn:=?_)|refine qR ?_|refine qS ?_|exact ⟨rfl,rfl⟩|fail)
  exact L_ret (RetQ.pick [0,1,2] rfl rfl rfl rfl ⟨rfl,rfl⟩)
end Go.Proofs.Ytpnjahijpdfcgaa
end
section
namespace Go.Tum.Base
open Go Go.Tum
def hornerN:Bytes→Nat
 | []=>0
 | b::r=>b.toNat+256*hornerN r
theorem hornerN_lt:∀ bs:Bytes,hornerN bs<256 ^ bs.length
 | []=>by simp [hornerN]
 | b::r=>by
  have:=hornerN_lt r
  have hb:=b.isLt
  simp only [hornerN,List.length_cons,Nat.pow_succ]
  omega
theorem hornerN_snoc:∀ (xs:Bytes) (b:BitVec 8),hornerN (xs++[b])=hornerN xs+256 ^ xs.length*b.toNat
 | [],b=>by simp [hornerN]
 | x::r,b=>by
  simp only [List.cons_append,hornerN,hornerN_snoc r b,List.length_cons,Nat.pow_succ]
  rw [Nat.mul_add,← Nat.mul_assoc,Nat.mul_comm 256 (256 ^ r.length)]; omega
theorem pow256 (k:Nat):256 ^ k=2 ^ (8*k):=by rw [Nat.pow_mul]
theorem getF_horner (bs:Bytes):∀ k,k≤8→k≤bs.length→(getF bs k).toNat=hornerN (bs.take k)
 | 0,_,_=>by simp [getF,hornerN]
 | k+1,h8,hk=>by
  have ih:=getF_horner bs k (by omega) (by omega)
  have hlt:=hornerN_lt (bs.take k)
  rw [List.length_take,Nat.min_eq_left (by omega),pow256] at hlt
  have hg:bs.getD k 0=bs[k]:=by rw [List.getD_eq_getElem?_getD,List.getElem?_eq_getElem (by omega)]; rfl
  have hb:=bs[k].isLt
  have hp:2 ^ (8*k)*256≤2 ^ 64:=by
   have:2 ^ (8*k)*2 ^ 8≤2 ^ 64:=by rw [← Nat.pow_add]; exact Nat.pow_le_pow_right (by decide) (by omega)
   omega
  have hsh:(bs[k].setWidth 64 <<< (8*k)).toNat=2 ^ (8*k)*bs[k].toNat:=by
   rw [BitVec.toNat_shiftLeft,Nat.shiftLeft_eq,BitVec.toNat_setWidth,Nat.mod_eq_of_lt (a:=bs[k].toNat) (by omega),Nat.mul_comm,Nat.mod_eq_of_lt]
   have:2 ^ (8*k)*bs[k].toNat<2 ^ (8*k)*256:=Nat.mul_lt_mul_of_pos_left hb (Nat.two_pow_pos _)
   omega
  rw [getF,hg,BitVec.toNat_or,ih,hsh,Nat.or_comm,← Nat.two_pow_add_eq_or_of_lt hlt,List.take_succ_eq_append_getElem (by omega),hornerN_snoc,List.length_take,Nat.min_eq_left (by omega),pow256]
  omega
theorem getW_horner {bs:Bytes} (h:bs.length=8):getW bs=BitVec.ofNat 64 (hornerN bs):=by
 apply BitVec.eq_of_toNat_eq
 have h1:=hornerN_lt bs
 rw [h] at h1
 have h2:=getF_horner bs 8 (by omega) (by omega)
 rw [List.take_of_length_le (by omega)] at h2
 rw [getW,h,show min 8 8=8 by rfl,h2,BitVec.toNat_ofNat,Nat.mod_eq_of_lt (by simpa using h1)]
theorem shift_step (v:BitVec 64) (k:Nat):v >>> (8*k) >>> 8=v >>> (8*(k+1)):=by
 apply BitVec.eq_of_getLsbD_eq
 intro i hi
 simp only [BitVec.getLsbD_ushiftRight]
 congr 1; omega
end Go.Tum.Base
namespace Go.Proofs.Ytpnjahijpdfcgaa
open Go Go.Tum Go.Tum.Base
set_option maxRecDepth 4000
theorem rMix_tr (x:BitVec 64):Tr Try.prog 28 [.int .u64 (x.toNat:Int)] [] (fun v K=>v=.int .u64 ((mixW x).toNat:Int)∧K=[]):=by
 refine Tr.of row_tumbrelref06_Mix_ok rfl ?_
 repeat' (first|refine qN ?_|refine dN ?_|refine dR ?_|refine d0 ?_|refine rT ?_|refine S_Q [] rfl rfl (QY.quoW 30 rfl rfl (by decide) (by decide)) ?_|refine S_Q [] rfl rfl (QY.quoW 27 rfl rfl (by decide) (by decide)) ?_|refine S_Q [] rfl rfl (QY.quoW 31 rfl rfl (by decide) (by decide)) ?_|refine S_Q [] rfl rfl (QY.xorW rfl rfl) ?_|refine S_Q [] rfl rfl (QY.mulW (b:=0xBF58476D1CE4E5B9#64) rfl rfl) ?_|refine S_Q [] rfl rfl (QY.mulW (b:=0x94D049BB133111EB#64) rfl rfl) ?_|refine aI (hn:=?_)|refine aD ?_|refine aM ?_|refine qR ?_|refine qS ?_|exact ⟨rfl,rfl⟩|fail)
set_option maxHeartbeats 1000000 in
theorem rGet_tr (ys:Bytes) (i c:Nat) (h:i+8≤ys.length) (hb:ys.length≤65536):Tr Try.prog 35 [.slice (some ⟨0,i*1,none⟩) 8 c] [BL ys] (fun v K=>v=.int .u64 ((wordB ys i).toNat:Int)∧K=[BL ys]):=by
 have hp:(partB ys i 8).length=8:=partB_length h
 rw [wordB,getW_horner hp]
 obtain ⟨W,hW⟩:∃ W:Nat→BitVec 64,W=fun k=>BitVec.ofNat 64 (hornerN ((partB ys i 8).drop k)):=⟨_,rfl⟩
 have hg:∀ k,k<8→ys[i+k]?=some ((partB ys i 8).getD k 0):=fun k hk=>by
  rw [List.getD_eq_getElem?_getD,partB,List.getElem?_take,if_pos hk,List.getElem?_drop,List.getElem?_eq_getElem (by omega)]; rfl
 have hWs:∀ k,k<8→W (k+1)*256#64+((partB ys i 8).getD k 0).setWidth 64=W k:=fun k hk=>by
  rw [hW]
  simp only
  have hd:(partB ys i 8).drop k=(partB ys i 8).getD k 0::(partB ys i 8).drop (k+1):=by
   rw [List.drop_eq_getElem_cons (by omega),List.getD_eq_getElem?_getD,List.getElem?_eq_getElem (by omega)]; rfl
  rw [hd,hornerN]
  apply BitVec.eq_of_toNat_eq
  have:=((partB ys i 8).getD k 0).isLt
  simp only [BitVec.toNat_add,BitVec.toNat_mul,BitVec.toNat_ofNat,BitVec.toNat_setWidth]
  omega
 have hW8:W 8=0#64:=by rw [hW]; simp only; rw [List.drop_eq_nil_of_le (by omega)]; rfl
 have hW0:W 0=BitVec.ofNat 64 (hornerN (partB ys i 8)):=by rw [hW]; simp only; rw [List.drop_zero]
 rw [← hW0]
 generalize partB ys i 8=xs at *
 refine Tr.of row_tumbrelref01_Get_ok rfl ?_
 repeat' (first|refine qN ?_|refine dN ?_|refine d0 ?_|refine qB ?_|refine qT ?_|refine qU ?_|refine qL ?_|refine qK ?_|refine qF ?_|refine qE ?_|refine iF (fun h=>?_) (fun h=>?_)|refine aX ?_|refine aA ?_|refine aS ?_|refine aI (hn:=?_)|refine aM ?_|refine qR ?_|refine qS ?_|exact ⟨rfl,rfl⟩|fail)
 refine LWp.pick [0,3,4] [0] rfl rfl rfl (L_loop (fun q l L=>∃ k:Nat,q=k∧k≤8∧l=[(0,.slice (some ⟨0,i*1,none⟩) 8 c),(3,.int .u64 ((W k).toNat:Int)),(4,.int .i64 ((k:Int)-1))]∧L=[BL ys]) 8 ⟨8,rfl,by omega,by rw [hW8]; rfl,rfl⟩ ?_)
 rintro k _ _ ⟨_,rfl,hk,rfl,rfl⟩
 cases k with
 | zero =>
  repeat' (first|refine qN ?_|refine dN ?_|refine dR ?_|refine d0 ?_|refine qB ?_|refine rT ?_|refine qT ?_|refine qU ?_|refine qL ?_|refine qK ?_|refine qF ?_|refine qE ?_|refine iF (fun h=>?_) (fun h=>?_)|refine aX ?_|refine aA ?_|refine aS ?_|refine aI (hn:=?_)|refine aM ?_|refine qR ?_|refine qS ?_|exact ⟨rfl,rfl⟩|fail)
 | succ k =>
  have hgk:=hg k (by omega)
  have hWk:=hWs k (by omega)
  rw [show ((k+1:Nat):Int)-1=(k:Int) by omega]
  repeat' (first|refine qN ?_|refine dN ?_|refine d0 ?_|refine qB ?_|refine qT ?_|refine qU ?_|refine qL ?_|refine qK ?_|refine qF ?_|refine qE ?_|refine iF (fun h=>?_) (fun h=>?_)|refine aX ?_|refine S_Q [] rfl rfl (QY.mulW (b:=256#64) rfl rfl) ?_|refine S_Q [] rfl rfl (QY.idxO (k:=k) rfl rfl (by omega)) ?_|refine S_Q [] rfl rfl (QY.ldYo rfl (by omega) rfl hgk) ?_|refine S_Q [] rfl rfl (QY.cvBW rfl) ?_|refine S_Q [] rfl rfl (QY.addW rfl rfl) ?_|refine aA ?_|refine aS ?_|refine aI (hn:=?_)|refine aM ?_|refine qR ?_|refine qS ?_|exact ⟨rfl,rfl⟩|fail)
  ·rw [hWk]
   exact Nx.pick [0,3,4] [0] rfl rfl rfl ⟨k,by omega,k,rfl,by omega,rfl,rfl⟩
set_option maxHeartbeats 1000000 in
theorem rPut_tr (v:BitVec 64):Tr Try.prog 27 [.int .i64 8,.int .u64 (v.toNat:Int)] [] (fun u K=>u=slB 0 8∧K=[BL (putB v 8)]):=by
 refine Tr.of row_tumbrelref01_Put_ok rfl ?_
 repeat' (first|refine qN ?_|refine dN ?_|refine d0 ?_|refine qB ?_|refine qT ?_|refine qU ?_|refine qL ?_|refine qK ?_|refine qF ?_|refine qE ?_|refine iF (fun h=>?_) (fun h=>?_)|refine aA ?_|refine aI (hn:=?_)|refine aD ?_|refine aR ?_|refine sP 10 (fun h=>?_) (fun h=>?_)|refine qR ?_|refine qS ?_|exact ⟨rfl,rfl⟩|fail)
 refine LWp.nilE 5 1 rfl (LWp.pick [0,1,5,6] [0] rfl rfl rfl (L_loop (fun q l L=>∃ k:Nat,q=8-k∧k≤8∧l=[(0,.int .i64 8),(1,.int .u64 ((v >>> (8*k)).toNat:Int)),(5,.slice (some ⟨0,0,none⟩) k k),(6,.int .i64 k)]∧L=[BL (putB v k)]) 8 ⟨0,rfl,by omega,by rw [Nat.mul_zero,BitVec.ushiftRight_zero]; rfl,rfl⟩ ?_))
 rintro q _ _ ⟨k,rfl,hk,rfl,rfl⟩
 repeat' (first|refine qN ?_|refine dN ?_|refine d0 ?_|refine qB ?_|refine qT ?_|refine qU ?_|refine qL ?_|refine qK ?_|refine qF ?_|refine qE ?_|refine iF (fun h=>?_) (fun h=>?_)|refine S_Q [] rfl rfl (QY.rem256 rfl rfl) ?_|refine S_Q [] rfl rfl (QY.cvi rfl (rem_byte _)) ?_|refine S_Q [] rfl rfl (QY.quoW 8 rfl rfl (by decide) (by decide)) ?_|refine aA ?_|refine aI (hn:=?_)|refine aD ?_|refine aR ?_|refine sP 10 (fun h=>?_) (fun h=>?_)|refine qR ?_|refine qS ?_|exact ⟨rfl,rfl⟩|fail)
 ·first|refine L_rs ?_|refine L_reg ?_ | skip
  refine eE rfl rfl (EW.appR1 (bytes:=1) (a:=byteAt v k) byteC_ok rfl (by kernel_rfl) rfl rfl rfl rfl (putB_length v k) (by omega)) ?_
  conv=>whnf
  repeat' (first|refine qN ?_|refine dN ?_|refine d0 ?_|refine qB ?_|refine qT ?_|refine qU ?_|refine qL ?_|refine qK ?_|refine qF ?_|refine qE ?_|refine iF (fun h=>?_) (fun h=>?_)|refine S_Q [] rfl rfl (QY.quoW 8 rfl rfl (by decide) (by decide)) ?_|refine aA ?_|refine aI (hn:=?_)|refine aD ?_|refine aR ?_|refine sP 10 (fun h=>?_) (fun h=>?_)|refine qR ?_|refine qS ?_|exact ⟨rfl,rfl⟩|fail)
  rw [shift_step]
  refine Nx.pick [0,1,5,6] [2] rfl rfl rfl ⟨8-(k+1),by omega,k+1,rfl,by omega,rfl,rfl⟩
 ·obtain rfl:k=8:=by omega
  exact L_ret (RetQ.pick [0] rfl rfl rfl rfl ⟨rfl,rfl⟩)
theorem rPages_tr (n:Int):Tr Try.prog 25 [.int .i64 n] [] (fun v K=>v=.int .i64 (pagesC n)∧K=[]):=by
 refine Tr.of row_tumbrelref05_Pages_ok rfl ?_
 by_cases h:n<121∨n > 4096
 ·rw [show pagesC n=0 by unfold pagesC; rw [if_pos (by omega)]]
  repeat' (first|refine qN ?_|refine dN ?_|refine dR ?_|refine d0 ?_|refine qB ?_|refine rT ?_|refine qT ?_|refine qU ?_|refine qL ?_|refine qK ?_|refine qF ?_|refine qE ?_|refine iF (fun h=>?_) (fun h=>?_)|refine aA ?_|refine aI (hn:=?_)|refine aM ?_|refine sP 6 (fun h=>?_) (fun h=>?_)|refine qR ?_|refine qS ?_|exact ⟨rfl,rfl⟩|fail)
  all_goals (exfalso; omega)
 ·repeat' (first|refine qN ?_|refine dN ?_|refine d0 ?_|refine qB ?_|refine qT ?_|refine qU ?_|refine qL ?_|refine qK ?_|refine qF ?_|refine qE ?_|refine iF (fun h=>?_) (fun h=>?_)|refine aA ?_|refine aI (hn:=?_)|refine aM ?_|refine sP 6 (fun h=>?_) (fun h=>?_)|refine qR ?_|refine qS ?_|exact ⟨rfl,rfl⟩|fail)
  all_goals try (exfalso; omega)
  refine LWp.pick [0,3] [] rfl rfl rfl (L_loop (fun q l L=>∃ k:Nat,q=17-k∧1≤k∧(k:Int)≤pagesC n∧l=[(0,.int .i64 n),(3,.int .i64 k)]∧L=[]) 16 ⟨1,rfl,by omega,by unfold pagesC; rw [if_neg (by omega)]; omega,rfl,rfl⟩ ?_)
  have hp:pagesC n=(n+263) / 256:=by unfold pagesC; rw [if_neg (by omega)]
  rw [hp]
  rintro q _ _ ⟨k,rfl,hk1,hk2,rfl,rfl⟩
  repeat' (first|refine qN ?_|refine dN ?_|refine dR ?_|refine d0 ?_|refine qB ?_|refine rT ?_|refine qT ?_|refine qU ?_|refine qL ?_|refine qK ?_|refine qF ?_|refine qE ?_|refine iF (fun h=>?_) (fun h=>?_)|refine aA ?_|refine aI (hn:=?_)|refine aM ?_|refine sP 6 (fun h=>?_) (fun h=>?_)|refine qR ?_|refine qS ?_|exact ⟨rfl,rfl⟩|fail)
  ·exact Nx.pick [0,3] [] rfl rfl rfl ⟨17-(k+1),by omega,k+1,rfl,by omega,by omega,rfl,rfl⟩
  ·refine ⟨congrArg (Value.int _) ?_,rfl⟩; omega
end Go.Proofs.Ytpnjahijpdfcgaa
end
