/-
  What the proof leans on, part 5: of the texts Code, Tab, Lw8, Lw9, Lw11, Lw12, Lw15, Lw17, Lw19, Lw21.
-/
import Derived.Test.YthgmdlmeeebfiaaPkD
import Derived.Test.YthgmdlmeeebfiaaProg
set_option linter.unusedVariables false
set_option linter.unusedSimpArgs false
set_option linter.unusedSectionVars false
section
namespace Go.Sh
open Go Go.Tum
abbrev t (n:Nat):Operand:=.tmp n
abbrev i (n:Int):Operand:=.const (.int .i64 n)
abbrev m (d s:Nat):Step:=.q 0 (some d) none (.mov (.tmp s)) false
abbrev q (d:Nat) (op:QOp):Step:=.q 0 (some d) none op false
abbrev l (d s:Nat):Step:=.q 0 (some d) none (.ld (.tmp s)) true
abbrev k (j d:Nat) (op:QOp):Step:=.q j (some d) none op false
abbrev r (j d:Nat) (op:QOp):Step:=.q j (some d) none op true
abbrev g (j d c:Nat) (op:QOp):Step:=.q j (some d) (some (c,true)) op false
abbrev h (j d c:Nat) (op:QOp):Step:=.q j (some d) (some (c,true)) op true
abbrev n (j d c:Nat) (op:QOp):Step:=.q j (some d) (some (c,false)) op false
abbrev p (j d c:Nat) (op:QOp):Step:=.q j (some d) (some (c,false)) op true
abbrev e (d:Nat) (op:EOp) (pd:List Nat):Step:=.e (some d) none op pd
abbrev w (op:EOp) (pd:List Nat):Step:=.e none none op pd
abbrev o (x:Op) (ty:TypeId):Oper:=⟨none,x,ty, "",[].toArray,none⟩
abbrev s (a b:MC):MC:=.seq a b
abbrev x (l:List Step) (b:MC):MC:=.seq (.reg l) b
end Go.Sh
namespace Go.Proofs.Ythgmdlmeeebfiaa
open Go Go.Tum Go.Sh
abbrev EOk (k nt:Nat) (m:MC) (f:Func):Prop:=∀ {args:List Value} {w:World} {R:Value→World→Prop},Nat.ble args.length nt=true→MWp Try.prog m (RQ Try.prog f R) (initEnv 0 args) w→Does Try.prog k args.toArray w R
def m_tumbrellaw15_SpecApart:MC:=(x [q 6 (.mov (.const (.bool false)))] (x [m 15 0,q 16 (.bin .and (t 15) (i 4095)),m 17 1,q 18 (.bin .and (t 17) (i 8191)),m 19 2,e 20 (.call 9 [t 16,t 18,t 19,i 40]) [],m 14 20,q 21 (.ext (t 14) 0),q 22 (.ext (t 14) 1),q 23 (.ext (t 14) 2),e 7 (.new 28 [.int .i64 0,.int .i64 0,.slice none 0 0,.slice none 0 0]) [],e 8 (.new 31 [.int .i64 0,.int .i64 0,.slice none 0 0,.slice none 0 0]) [],w (.stn (t 7) (t 21) 4) [],w (.stn (t 8) (t 22) 4) [],m 9 23] (s (x [m 24 9,q 25 (.un .not (t 24))] (.cond (t 25) (x [q 6 (.mov (.const (.bool false)))] .ret) .skip)) (s (x [q 26 (.fld (t 8) 2),l 27 26,q 28 (.len (t 27)),q 29 (.mov (i 0))] (.block 0 (.loop (x [q 30 (.bin .lss (t 29) (t 28))] (s (.cond (t 30) .skip (.exit 0)) (s (.block 1 (x [m 31 29,q 32 (.idx (t 27) (t 29) 2),r 0 33 (.ldn (t 32) 2),e 11 (.new 35 [.int .i64 0,.int .i64 0]) [],m 10 31,w (.stn (t 11) (t 33) 2) []] (s (x [q 34 (.fld (t 11) 0),l 35 34,q 36 (.bin .lss (t 35) (i 0)),m 37 36,n 0 38 37 (.fld (t 11) 0),p 0 39 37 (.ld (t 38)),n 0 40 37 (.bin .rem (t 39) (i 16)),n 0 41 37 (.bin .neq (t 40) (i 0)),q 42 (.pick (t 37) (.const (.bool true)) (t 41)),m 43 42,n 0 44 43 (.fld (t 11) 0),p 0 45 43 (.ld (t 44)),n 0 46 43 (.fld (t 11) 1),p 0 47 43 (.ld (t 46)),n 0 48 43 (.bin .add (t 45) (t 47)),n 0 49 43 (.fld (t 8) 0),p 0 50 43 (.ld (t 49)),n 0 51 43 (.bin .gtr (t 48) (t 50)),q 52 (.pick (t 43) (.const (.bool true)) (t 51))] (.cond (t 52) (x [q 6 (.mov (.const (.bool false)))] .ret) .skip)) (x [q 53 (.fld (t 8) 2),l 54 53,m 55 10,q 56 (.slc (t 54) none (some (t 55)) 2),q 57 (.len (t 56)),q 58 (.mov (i 0))] (.block 2 (.loop (x [q 59 (.bin .lss (t 58) (t 57))] (s (.cond (t 59) .skip (.exit 2)) (s (.block 3 (x [q 60 (.idx (t 56) (t 58) 2),r 0 61 (.ldn (t 60) 2),e 13 (.new 35 [.int .i64 0,.int .i64 0]) [],w (.stn (t 13) (t 61) 2) []] (x [r 0 62 (.ldn (t 11) 2),q 63 (.fld (t 13) 0),l 64 63,e 65 (.call 10 [t 62,t 64]) [],m 66 65,p 0 67 66 (.ldn (t 13) 2),n 0 68 66 (.fld (t 11) 0),p 0 69 66 (.ld (t 68)),.e (some 70) (some (66,false)) (.call 10 [t 67,t 69]) [],q 71 (.pick (t 66) (.const (.bool true)) (t 70))] (.cond (t 71) (x [q 6 (.mov (.const (.bool false)))] .ret) .skip)))) (.reg [q 72 (.bin .add (t 58) (i 1)),m 58 72])))))))))) (.reg [q 73 (.bin .add (t 29) (i 1)),m 29 73]))))))) (x [r 0 74 (.ldn (t 7) 4),k 3 77 (.fld (t 8) 2),r 4 78 (.ld (t 77)),k 5 79 (.len (t 78)),e 75 (.call 11 [t 74]) [4],k 2 76 (.len (t 75)),k 6 80 (.bin .eql (t 76) (t 79)),k 7 81 (.mov (t 80)),.e (some 82) (some (81,true)) (.call 12 []) [4],k 9 83 (.pick (t 81) (t 82) (.const (.bool false))),k 10 6 (.mov (t 83))] .ret)))))
def m_tumbrellaw15_SpecKeys:MC:=(x [q 10 (.mov (.const (.bool false)))] (x [m 23 0,q 24 (.bin .and (t 23) (i 4095)),m 25 1,q 26 (.bin .and (t 25) (i 8191)),m 0 24,m 1 26] (x [m 28 0,m 29 1,m 30 2,e 31 (.call 9 [t 28,t 29,t 30,i 15]) [],m 27 31,q 32 (.ext (t 27) 0),q 33 (.ext (t 27) 1),q 34 (.ext (t 27) 2),e 11 (.new 28 [.int .i64 0,.int .i64 0,.slice none 0 0,.slice none 0 0]) [],e 12 (.new 31 [.int .i64 0,.int .i64 0,.slice none 0 0,.slice none 0 0]) [],w (.stn (t 11) (t 32) 4) [],w (.stn (t 12) (t 33) 4) [],m 13 34] (x [r 0 35 (.ldn (t 11) 4),e 36 (.call 13 [t 35]) [],m 14 36] (x [m 38 0,m 39 1,e 40 (.bs0 44) [],m 41 2,e 42 (.call 14 [t 41]) [],e 43 (.raw (o (.call ⟨(.builtin .append),[t 40,t 42].toArray,[22,22].toArray⟩) 22)) [],m 44 3,e 45 (.call 14 [t 44]) [],e 46 (.raw (o (.call ⟨(.builtin .append),[t 43,t 45].toArray,[22,22].toArray⟩) 22)) [],e 47 (.call 9 [t 38,t 39,t 46,i 30]) [],m 37 47,q 48 (.ext (t 37) 0),q 49 (.ext (t 37) 1),q 50 (.ext (t 37) 2),e 15 (.new 28 [.int .i64 0,.int .i64 0,.slice none 0 0,.slice none 0 0]) [],e 16 (.new 31 [.int .i64 0,.int .i64 0,.slice none 0 0,.slice none 0 0]) [],w (.stn (t 15) (t 48) 4) [],w (.stn (t 16) (t 49) 4) [],m 17 50] (x [m 52 0,m 53 1,e 54 (.bs0 44) [],m 55 2,e 56 (.call 14 [t 55]) [],e 57 (.raw (o (.call ⟨(.builtin .append),[t 54,t 56].toArray,[22,22].toArray⟩) 22)) [],m 58 4,e 59 (.call 14 [t 58]) [],e 60 (.raw (o (.call ⟨(.builtin .append),[t 57,t 59].toArray,[22,22].toArray⟩) 22)) [],e 61 (.call 9 [t 52,t 53,t 60,i 30]) [],m 51 61,q 62 (.ext (t 51) 0),q 63 (.ext (t 51) 1),q 64 (.ext (t 51) 2),e 18 (.new 28 [.int .i64 0,.int .i64 0,.slice none 0 0,.slice none 0 0]) [],e 19 (.new 31 [.int .i64 0,.int .i64 0,.slice none 0 0,.slice none 0 0]) [],w (.stn (t 18) (t 62) 4) [],w (.stn (t 19) (t 63) 4) [],m 20 64] (s (x [m 65 13,q 66 (.un .not (t 65)),m 67 66,n 0 68 67 (.mov (t 17)),n 0 69 67 (.un .not (t 68)),q 70 (.pick (t 67) (.const (.bool true)) (t 69)),m 71 70,n 0 72 71 (.mov (t 20)),n 0 73 71 (.un .not (t 72)),q 74 (.pick (t 71) (.const (.bool true)) (t 73))] (.cond (t 74) (x [q 10 (.mov (.const (.bool false)))] .ret) .skip)) (s (x [m 75 3,q 76 (.len (t 75)),q 77 (.mov (i 0))] (.block 0 (.loop (x [q 78 (.bin .lss (t 77) (t 76))] (s (.cond (t 78) .skip (.exit 0)) (s (.block 1 (x [m 79 77,q 80 (.idx (t 75) (t 77) 4),r 0 81 (.ldn (t 80) 4),e 22 (.new 44 [.bool false,.int .i64 0,.int .i64 0,.int .i64 0]) [],m 21 79,w (.stn (t 22) (t 81) 4) []] (x [m 82 21,q 83 (.bin .lss (t 82) (i 5))] (.cond (t 83) (.reg [r 0 84 (.ldn (t 11) 4),r 1 85 (.ldn (t 22) 4),e 86 (.call 16 [t 85]) [0],e 87 (.call 15 [t 84,t 86]) []]) .skip)))) (.reg [q 88 (.bin .add (t 77) (i 1)),m 77 88]))))))) (x [r 0 89 (.ldn (t 11) 4),k 2 91 (.mov (t 14)),e 90 (.call 13 [t 89]) [],r 3 92 (.raw (o (.binOp .eql 9 (t 90) (t 91) 9) 4)),k 4 93 (.mov (t 92)),h 5 94 93 (.ldn (t 15) 4),h 7 96 93 (.ldn (t 18) 4),h 10 99 93 (.ldn (t 16) 4),h 11 100 93 (.ldn (t 19) 4),.e (some 95) (some (93,true)) (.call 13 [t 94]) [11,10,7,3],.e (some 97) (some (93,true)) (.call 13 [t 96]) [11,10,3],h 9 98 93 (.raw (o (.binOp .eql 9 (t 95) (t 97) 9) 4)),.e (some 101) (some (93,true)) (.call 17 [t 99,t 100]) [9,3],h 13 102 93 (.raw (o (.binOp .eql 4 (t 98) (t 101) 4) 4)),k 14 103 (.pick (t 93) (t 102) (.const (.bool false))),k 15 104 (.mov (t 103)),h 16 105 104 (.ldn (t 15) 4),h 18 107 104 (.ldn (t 11) 4),h 21 110 104 (.ldn (t 16) 4),h 22 111 104 (.ldn (t 12) 4),.e (some 106) (some (104,true)) (.call 13 [t 105]) [22,21,18,13,9,3],.e (some 108) (some (104,true)) (.call 13 [t 107]) [22,21,13,9,3],h 20 109 104 (.raw (o (.binOp .eql 9 (t 106) (t 108) 9) 4)),.e (some 112) (some (104,true)) (.call 17 [t 110,t 111]) [20,13,9,3],h 24 113 104 (.raw (o (.binOp .eql 4 (t 109) (t 112) 4) 4)),k 25 114 (.pick (t 104) (t 113) (.const (.bool false))),k 26 115 (.mov (t 114)),.e (some 116) (some (115,true)) (.call 12 []) [24,20,13,9,3],k 28 117 (.pick (t 115) (t 116) (.const (.bool false))),k 29 10 (.mov (t 117))] .ret)))))))))
def m_tumbrellaw15_SpecAlways:MC:=(x [q 10 (.mov (.const (.bool false)))] (x [m 21 0,q 22 (.bin .and (t 21) (i 4095)),m 23 1,q 24 (.bin .and (t 23) (i 8191)),m 25 2,e 26 (.call 9 [t 22,t 24,t 25,i 30]) [],m 20 26,q 27 (.ext (t 20) 0),q 28 (.ext (t 20) 1),q 29 (.ext (t 20) 2),e 11 (.new 28 [.int .i64 0,.int .i64 0,.slice none 0 0,.slice none 0 0]) [],e 12 (.new 31 [.int .i64 0,.int .i64 0,.slice none 0 0,.slice none 0 0]) [],w (.stn (t 11) (t 27) 4) [],w (.stn (t 12) (t 28) 4) [],m 13 29] (s (x [m 30 13,q 31 (.un .not (t 30))] (.cond (t 31) (x [q 10 (.mov (.const (.bool false)))] .ret) .skip)) (x [m 32 3,q 33 (.cvi .i64 (t 32)),q 34 (.bin .rem (t 33) (i 4096)),q 35 (.bin .add (i 1) (t 34)),q 36 (.bld [.bool false,.int .i64 0,.int .i64 0,.int .i64 0] [(1,(1,(t 35))),(2,(1,(i (-1))))]),e 14 (.new 48 [.bool false,.int .i64 0,.int .i64 0,.int .i64 0]) [],w (.stn (t 14) (t 36) 4) []] (x [r 0 38 (.ldn (t 11) 4),r 0 39 (.ldn (t 14) 4),e 40 (.call 15 [t 38,t 39]) [],m 37 40,q 41 (.ext (t 37) 0),q 42 (.ext (t 37) 1),e 15 (.new 28 [.int .i64 0,.int .i64 0,.slice none 0 0,.slice none 0 0]) [],w (.stn (t 15) (t 41) 4) [],m 16 42] (x [q 17 (.mov (i 0))] (s (x [q 18 (.mov (i 0))] (.block 0 (.loop (s (x [m 43 18,q 44 (.bin .leq (t 43) (i 5))] (.cond (t 44) .skip (.exit 0))) (s (.block 1 (x [r 0 47 (.ldn (t 11) 4),m 48 4,m 49 18,q 50 (.bld [.bool false,.int .i64 0,.int .i64 0,.int .i64 0] [(0,(1,(.const (.bool true)))),(1,(1,(t 48))),(2,(1,(i (-1)))),(3,(1,(t 49)))]),e 51 (.call 18 [t 47,t 50]) []] (.cond (t 51) (.reg [m 52 17,q 53 (.bin .add (t 52) (i 1)),m 17 53]) .skip))) (.reg [m 45 18,q 46 (.bin .add (t 45) (i 1)),m 18 46])))))) (x [m 54 4,q 55 (.bin .lss (t 54) (i 0)),m 56 55,n 0 57 56 (.mov (t 4)),n 0 58 56 (.fld (t 12) 1),p 0 59 56 (.ld (t 58)),n 0 60 56 (.bin .geq (t 57) (t 59)),q 61 (.pick (t 56) (.const (.bool true)) (t 60)),m 62 61,n 0 63 62 (.mov (t 4)),n 0 64 62 (.fld (t 12) 0),p 0 65 62 (.ld (t 64)),n 0 66 62 (.bin .geq (t 63) (t 65)),q 67 (.pick (t 62) (.const (.bool true)) (t 66)),m 68 67,p 0 69 68 (.ldn (t 12) 4),n 0 70 68 (.mov (t 4)),.e (some 71) (some (68,false)) (.call 19 [t 69,t 70]) [],q 72 (.pick (t 68) (.const (.bool true)) (t 71)),m 19 72] (x [r 0 73 (.ldn (t 11) 4),r 1 74 (.ldn (t 14) 4),e 75 (.call 18 [t 73,t 74]) [],k 3 76 (.mov (t 75)),g 4 77 76 (.mov (t 16)),g 5 78 76 (.bin .eql (t 77) (i 0)),k 6 79 (.pick (t 76) (t 78) (.const (.bool false))),k 7 80 (.mov (t 79)),h 8 81 80 (.ldn (t 15) 4),h 10 83 80 (.ldn (t 11) 4),.e (some 82) (some (80,true)) (.call 13 [t 81]) [10],.e (some 84) (some (80,true)) (.call 13 [t 83]) [],h 12 85 80 (.raw (o (.binOp .eql 9 (t 82) (t 84) 9) 4)),k 13 86 (.pick (t 80) (t 85) (.const (.bool false))),k 14 87 (.mov (t 86)),g 15 88 87 (.mov (t 17)),g 16 89 87 (.bin .geq (t 88) (i 1)),k 17 90 (.pick (t 87) (t 89) (.const (.bool false))),k 18 91 (.mov (t 90)),g 19 92 91 (.mov (t 19)),g 20 93 91 (.un .not (t 92)),g 21 94 91 (.mov (t 93)),n 22 95 94 (.mov (t 17)),n 23 96 94 (.bin .eql (t 95) (i 1)),g 24 97 91 (.pick (t 94) (.const (.bool true)) (t 96)),k 25 98 (.pick (t 91) (t 97) (.const (.bool false))),k 26 99 (.mov (t 98)),.e (some 100) (some (99,true)) (.call 12 []) [12],k 28 101 (.pick (t 99) (t 100) (.const (.bool false))),k 29 10 (.mov (t 101))] .ret)))))))))
def m_tumbrellaw16_LinearOrder:MC:=(x [q 6 (.mov (.const (.bool false)))] (x [m 15 0,q 16 (.bin .and (t 15) (i 4095)),m 17 1,q 18 (.bin .and (t 17) (i 8191)),e 19 (.call 20 [t 16,t 18]) [],m 14 19,q 20 (.ext (t 14) 0),q 21 (.ext (t 14) 1),e 7 (.new 24 [.int .i64 0,.int .i64 0]) [],e 8 (.new 31 [.int .i64 0,.int .i64 0,.slice none 0 0,.slice none 0 0]) [],w (.stn (t 7) (t 20) 2) [],w (.stn (t 8) (t 21) 4) []] (x [m 22 2,e 23 (.call 21 [t 22,i 6]) [],m 2 23] (x [r 0 25 (.ldn (t 7) 2),k 1 26 (.mov (t 2)),e 27 (.call 23 [t 26]) [0],e 28 (.call 22 [t 25,t 27]) [],k 4 24 (.mov (t 28)),k 5 29 (.ext (t 24) 0),k 6 30 (.ext (t 24) 1),k 7 31 (.ext (t 24) 2),k 8 9 (.mov (t 29)),k 9 10 (.mov (t 30)),k 10 11 (.mov (t 31))] (x [r 0 33 (.ldn (t 8) 4),m 34 2,e 35 (.call 24 [t 33,t 34,.const (.slice none 0 0),i 6]) [],m 32 35,q 36 (.ext (t 32) 0),q 37 (.ext (t 32) 1),m 12 36,m 13 37] (x [m 38 11,k 1 39 (.bin .eql (t 38) (i 0)),k 2 40 (.mov (t 39)),g 3 41 40 (.mov (t 10)),g 4 42 40 (.mov (t 13)),h 5 43 40 (.raw (o (.binOp .eql 4 (t 41) (t 42) 4) 4)),k 6 44 (.pick (t 40) (t 43) (.const (.bool false))),k 7 45 (.mov (t 44)),g 8 46 45 (.mov (t 9)),g 9 47 45 (.mov (t 12)),.e (some 48) (some (45,true)) (.call 25 [t 46,t 47]) [5],k 11 49 (.pick (t 45) (t 48) (.const (.bool false))),k 12 50 (.mov (t 49)),g 13 51 50 (.mov (t 10)),g 14 52 50 (.un .not (t 51)),g 15 53 50 (.mov (t 52)),p 16 54 53 (.ldn (t 7) 2),n 17 55 53 (.mov (t 2)),n 19 57 53 (.mov (t 9)),.e (some 56) (some (53,false)) (.call 23 [t 55]) [16,5],.e (some 58) (some (53,false)) (.call 26 [t 54,t 56,t 57]) [5],g 21 59 50 (.pick (t 53) (.const (.bool true)) (t 58)),k 22 60 (.pick (t 50) (t 59) (.const (.bool false))),k 23 61 (.mov (t 60)),.e (some 62) (some (61,true)) (.call 27 []) [5],k 25 63 (.pick (t 61) (t 62) (.const (.bool false))),k 26 6 (.mov (t 63))] .ret))))))
def m_tumbrellaw16_LinearAlone:MC:=(x [q 6 (.mov (.const (.bool false)))] (x [m 18 0,q 19 (.bin .and (t 18) (i 4095)),m 20 1,q 21 (.bin .and (t 20) (i 8191)),e 22 (.call 20 [t 19,t 21]) [],m 17 22,q 23 (.ext (t 17) 0),q 24 (.ext (t 17) 1),e 7 (.new 24 [.int .i64 0,.int .i64 0]) [],e 8 (.new 31 [.int .i64 0,.int .i64 0,.slice none 0 0,.slice none 0 0]) [],w (.stn (t 7) (t 23) 2) [],w (.stn (t 8) (t 24) 4) []] (s (x [m 25 2,q 26 (.len (t 25)),q 27 (.bin .gtr (t 26) (i 8))] (.cond (t 27) (.reg [m 28 2,q 29 (.slc (t 28) none (some (i 8)) 4),m 2 29]) .skip)) (x [q 9 (.mov (.const (.slice none 0 0)))] (x [q 10 (.mov (.const (.slice none 0 0)))] (x [q 11 (.mov (.const (.bool true)))] (s (x [m 30 2,q 31 (.len (t 30)),q 32 (.mov (i 0))] (.block 0 (.loop (x [q 33 (.bin .lss (t 32) (t 31))] (s (.cond (t 33) .skip (.exit 0)) (s (.block 1 (x [m 34 32,q 35 (.idx (t 30) (t 32) 4),r 0 36 (.ldn (t 35) 4),e 13 (.new 44 [.bool false,.int .i64 0,.int .i64 0,.int .i64 0]) [],m 12 34,w (.stn (t 13) (t 36) 4) []] (x [m 37 9,q 38 (.fld (t 13) 0),l 39 38,q 40 (.fld (t 13) 1),l 41 40,q 42 (.fld (t 13) 2),l 43 42,q 44 (.fld (t 13) 3),l 45 44,m 46 12,q 47 (.bin .mul (i 2) (t 46)),m 48 12,q 49 (.bin .mul (i 2) (t 48)),q 50 (.bin .add (t 49) (i 1)),m 51 12,q 52 (.bin .mul (i 2) (t 51)),q 53 (.bin .add (t 52) (i 1)),q 54 (.bld [.int .i64 0,.bool false,.int .i64 0,.int .i64 0,.int .i64 0,.int .i64 0,.int .i64 0,.int .i64 0] [(1,(1,(t 39))),(2,(1,(t 41))),(3,(1,(t 43))),(4,(1,(t 45))),(5,(1,(t 47))),(6,(1,(t 50))),(7,(1,(t 53)))]),e 55 (.bs1 70 8 (t 54)) [],e 56 (.raw (o (.call ⟨(.builtin .append),[t 37,t 55].toArray,[62,62].toArray⟩) 62)) [],m 9 56] (x [m 57 10,m 58 12,e 59 (.bs1 3 1 (t 58)) [],e 60 (.raw (o (.call ⟨(.builtin .append),[t 57,t 59].toArray,[26,26].toArray⟩) 26)) [],m 10 60] (x [m 61 11,m 62 61,h 0 63 62 (.ldn (t 8) 4),h 0 64 62 (.ldn (t 13) 4),.e (some 65) (some (62,true)) (.call 28 [t 63,t 64]) [],q 66 (.pick (t 62) (t 65) (.const (.bool false))),m 11 66] (x [m 67 11] (.cond (t 67) (.reg [r 0 68 (.ldn (t 8) 4),r 0 69 (.ldn (t 13) 4),e 70 (.call 29 [t 68,t 69]) [],w (.stn (t 8) (t 70) 4) []]) .skip))))))) (.reg [q 71 (.bin .add (t 32) (i 1)),m 32 71]))))))) (x [r 0 73 (.ldn (t 7) 2),m 74 9,e 75 (.call 22 [t 73,t 74]) [],m 72 75,q 76 (.ext (t 72) 0),q 77 (.ext (t 72) 1),q 78 (.ext (t 72) 2),m 14 76,m 15 77,m 16 78] (x [m 79 16,q 80 (.bin .eql (t 79) (i 0)),m 81 80,g 0 82 81 (.mov (t 15)),g 0 83 81 (.mov (t 11)),h 0 84 81 (.raw (o (.binOp .eql 4 (t 82) (t 83) 4) 4)),q 85 (.pick (t 81) (t 84) (.const (.bool false))),m 86 85,g 0 87 86 (.mov (t 15)),g 0 88 86 (.un .not (t 87)),g 0 89 86 (.mov (t 88)),n 0 90 89 (.mov (t 14)),n 0 91 89 (.mov (t 10)),.e (some 92) (some (89,false)) (.call 25 [t 90,t 91]) [],g 0 93 86 (.pick (t 89) (.const (.bool true)) (t 92)),q 94 (.pick (t 86) (t 93) (.const (.bool false))),m 95 94,h 0 96 95 (.ldn (t 7) 2),g 0 97 95 (.mov (t 9)),g 0 98 95 (.mov (t 10)),.e (some 99) (some (95,true)) (.call 26 [t 96,t 97,t 98]) [],g 0 100 95 (.mov (t 11)),h 0 101 95 (.raw (o (.binOp .eql 4 (t 99) (t 100) 4) 4)),q 102 (.pick (t 95) (t 101) (.const (.bool false))),m 103 102,.e (some 104) (some (103,true)) (.call 27 []) [],q 105 (.pick (t 103) (t 104) (.const (.bool false))),m 6 105] .ret)))))))))
def m_tumbrellaw16_LinearRight:MC:=(x [q 8 (.mov (.const (.bool false)))] (x [m 15 0,q 16 (.bin .and (t 15) (i 4095)),m 17 1,q 18 (.bin .and (t 17) (i 8191)),e 19 (.call 20 [t 16,t 18]) [],m 14 19,q 20 (.ext (t 14) 0),q 21 (.ext (t 14) 1),e 9 (.new 24 [.int .i64 0,.int .i64 0]) [],e 10 (.new 31 [.int .i64 0,.int .i64 0,.slice none 0 0,.slice none 0 0]) [],w (.stn (t 9) (t 20) 2) [],w (.stn (t 10) (t 21) 4) []] (x [m 22 2,e 23 (.call 21 [t 22,i 8]) [],m 2 23] (s (x [m 24 3,q 25 (.len (t 24)),q 26 (.bin .gtr (t 25) (i 10))] (.cond (t 26) (.reg [m 27 3,q 28 (.slc (t 27) none (some (i 10)) 1),m 3 28]) .skip)) (x [r 0 30 (.ldn (t 9) 2),k 1 31 (.mov (t 2)),e 32 (.call 23 [t 31]) [0],e 33 (.call 30 [t 30,t 32]) [],k 4 29 (.mov (t 33)),k 5 34 (.ext (t 29) 0),k 6 35 (.ext (t 29) 1),k 7 11 (.mov (t 34)),k 8 12 (.mov (t 35))] (x [m 36 2,e 37 (.call 31 [t 36]) [],m 13 37] (x [r 0 38 (.ldn (t 9) 2),k 1 39 (.mov (t 2)),k 3 41 (.mov (t 3)),r 5 43 (.ldn (t 10) 4),k 6 44 (.mov (t 2)),k 7 45 (.mov (t 3)),e 40 (.call 23 [t 39]) [5,0],e 42 (.call 26 [t 38,t 40,t 41]) [5],e 46 (.call 32 [t 43,t 44,t 45]) [],r 9 47 (.raw (o (.binOp .eql 4 (t 42) (t 46) 4) 4)),k 10 48 (.mov (t 47)),g 11 49 48 (.mov (t 11)),g 12 50 48 (.mov (t 13)),.e (some 51) (some (48,true)) (.call 25 [t 49,t 50]) [9],k 14 52 (.pick (t 48) (t 51) (.const (.bool false))),k 15 53 (.mov (t 52)),g 16 54 53 (.mov (t 12)),h 17 55 53 (.ldn (t 10) 4),g 18 56 53 (.mov (t 2)),g 19 57 53 (.mov (t 13)),.e (some 58) (some (53,true)) (.call 32 [t 55,t 56,t 57]) [9],h 21 59 53 (.raw (o (.binOp .eql 4 (t 54) (t 58) 4) 4)),k 22 60 (.pick (t 53) (t 59) (.const (.bool false))),k 23 61 (.mov (t 60)),.e (some 62) (some (61,true)) (.call 27 []) [21,9],k 25 63 (.pick (t 61) (t 62) (.const (.bool false))),k 26 8 (.mov (t 63))] .ret)))))))
theorem e_tumbrellaw16_LinearRight:EOk 8 64 m_tumbrellaw16_LinearRight Try.f8:=fun hn h =>
 enter Try.func8 (c:=(Try.f8.body.getD .skip)) rfl (by kernel_rfl) (Nat.le_of_ble_eq_true hn) h
def m_tumbrellaw15_played:MC:=(x [e 8 (.new 28 [.int .i64 0,.int .i64 0,.slice none 0 0,.slice none 0 0]) [],e 9 (.new 31 [.int .i64 0,.int .i64 0,.slice none 0 0,.slice none 0 0]) [],q 10 (.mov (.const (.bool false)))] (x [m 18 0,m 19 1,q 20 (.bld [.int .i64 0,.int .i64 0] [(0,(1,(t 18))),(1,(1,(t 19)))]),e 21 (.call 33 [t 20]) [],m 22 0,m 23 1,q 24 (.bld [.int .i64 0,.int .i64 0,.slice none 0 0,.slice none 0 0] [(0,(1,(t 22))),(1,(1,(t 23)))]),e 11 (.new 28 [.int .i64 0,.int .i64 0,.slice none 0 0,.slice none 0 0]) [],e 12 (.new 31 [.int .i64 0,.int .i64 0,.slice none 0 0,.slice none 0 0]) [],w (.stn (t 11) (t 21) 4) [],w (.stn (t 12) (t 24) 4) []] (s (x [m 25 2,q 26 (.len (t 25)),q 27 (.mov (i 0))] (.block 0 (.loop (x [q 28 (.bin .lss (t 27) (t 26))] (s (.cond (t 28) .skip (.exit 0)) (s (.block 1 (x [m 29 27,q 30 (.idx (t 25) (t 27) 4),r 0 31 (.ldn (t 30) 4),e 14 (.new 44 [.bool false,.int .i64 0,.int .i64 0,.int .i64 0]) [],m 13 29,w (.stn (t 14) (t 31) 4) []] (s (x [m 32 13,m 33 3,q 34 (.bin .geq (t 32) (t 33))] (.cond (t 34) (.exit 0) .skip)) (x [r 0 35 (.ldn (t 11) 4),r 1 36 (.ldn (t 14) 4),e 37 (.call 16 [t 36]) [0],e 38 (.call 18 [t 35,t 37]) [],k 4 15 (.mov (t 38))] (s (.regT (.q 0 (some 40) none (.ldn (t 11) 4) true (.q 1 (some 41) none (.ldn (t 14) 4) true (.alt (.e (some 42) none (.call 16 [t 41]) [0] (.alt (.e (some 43) none (.call 15 [t 40,t 42]) [] (.q 4 (some 39) none (.mov (t 43)) false (.q 5 (some 44) none (.ext (t 39) 0) false (.q 6 (some 45) none (.ext (t 39) 1) false (.e (some 16) none (.new 28 [.int .i64 0,.int .i64 0,.slice none 0 0,.slice none 0 0]) [] (.e none none (.stn (t 16) (t 44) 4) [] (.q 9 (some 17) none (.mov (t 45)) false .done))))))) (.e (some 16) none (.new 28 [.int .i64 0,.int .i64 0,.slice none 0 0,.slice none 0 0]) [0] (.e (some 43) none (.call 15 [t 40,t 42]) [] (.q 4 (some 39) none (.mov (t 43)) false (.q 5 (some 44) none (.ext (t 39) 0) false (.q 6 (some 45) none (.ext (t 39) 1) false (.e none none (.stn (t 16) (t 44) 4) [] (.q 9 (some 17) none (.mov (t 45)) false .done))))))))) (.e (some 16) none (.new 28 [.int .i64 0,.int .i64 0,.slice none 0 0,.slice none 0 0]) [1,0] (.e (some 42) none (.call 16 [t 41]) [0] (.e (some 43) none (.call 15 [t 40,t 42]) [] (.q 4 (some 39) none (.mov (t 43)) false (.q 5 (some 44) none (.ext (t 39) 0) false (.q 6 (some 45) none (.ext (t 39) 1) false (.e none none (.stn (t 16) (t 44) 4) [] (.q 9 (some 17) none (.mov (t 45)) false .done)))))))))))) (s (x [m 46 15,r 0 47 (.ldn (t 12) 4),r 0 48 (.ldn (t 14) 4),e 49 (.call 28 [t 47,t 48]) [],r 0 50 (.raw (o (.binOp .neq 4 (t 46) (t 49) 4) 4)),m 51 50,n 0 52 51 (.mov (t 17)),n 0 53 51 (.bin .eql (t 52) (i 0)),n 0 54 51 (.mov (t 15)),p 0 55 51 (.raw (o (.binOp .neq 4 (t 53) (t 54) 4) 4)),q 56 (.pick (t 51) (.const (.bool true)) (t 55)),m 57 56,n 0 58 57 (.mov (t 15)),n 0 59 57 (.un .not (t 58)),n 0 60 57 (.mov (t 59)),g 0 61 60 (.mov (t 17)),g 0 62 60 (.bin .neq (t 61) (i 8)),n 0 63 57 (.pick (t 60) (t 62) (.const (.bool false))),q 64 (.pick (t 57) (.const (.bool true)) (t 63))] (.cond (t 64) (x [r 0 65 (.ldn (t 11) 4),r 1 66 (.ldn (t 12) 4),w (.stn (t 8) (t 65) 4) [1],w (.stn (t 9) (t 66) 4) [],k 4 10 (.mov (.const (.bool false)))] .ret) .skip)) (x [m 67 15] (.cond (t 67) (x [r 0 68 (.ldn (t 16) 4),w (.stn (t 11) (t 68) 4) []] (.reg [r 0 69 (.ldn (t 12) 4),r 0 70 (.ldn (t 14) 4),e 71 (.call 29 [t 69,t 70]) [],w (.stn (t 12) (t 71) 4) []])) .skip)))))))) (.reg [q 72 (.bin .add (t 27) (i 1)),m 27 72]))))))) (x [r 0 73 (.ldn (t 11) 4),r 1 74 (.ldn (t 12) 4),w (.stn (t 8) (t 73) 4) [1],w (.stn (t 9) (t 74) 4) [],k 4 10 (.mov (.const (.bool true)))] .ret))))
def m_tumbrelref15_In:MC:=(x [e 2 (.box 35 (t 0)) [],q 4 (.mov (.const (.bool false)))] (x [m 5 1,q 6 (.fld (t 2) 0),l 7 6,q 8 (.bin .geq (t 5) (t 7)),m 9 8,g 0 10 9 (.mov (t 1)),g 0 11 9 (.fld (t 2) 0),h 0 12 9 (.ld (t 11)),g 0 13 9 (.bin .sub (t 10) (t 12)),g 0 14 9 (.fld (t 2) 1),h 0 15 9 (.ld (t 14)),g 0 16 9 (.bin .lss (t 13) (t 15)),q 17 (.pick (t 9) (t 16) (.const (.bool false))),m 4 17] .ret))
theorem e_tumbrelref15_In:EOk 10 18 m_tumbrelref15_In Try.f10:=fun hn h =>
 enter Try.func10 (c:=(Try.f10.body.getD .skip)) rfl (by kernel_rfl) (Nat.le_of_ble_eq_true hn) h
def m_spec_State_Live:MC:=(x [e 1 (.box 28 (t 0)) [],q 2 (.mov (.const (.slice none 0 0)))] (x [q 3 (.mov (.const (.slice none 0 0)))] (s (x [q 6 (.fld (t 1) 2),l 7 6,q 8 (.len (t 7)),q 9 (.mov (i 0))] (.block 0 (.loop (x [q 10 (.bin .lss (t 9) (t 8))] (s (.cond (t 10) .skip (.exit 0)) (s (.block 1 (x [q 11 (.idx (t 7) (t 9) 2),r 0 12 (.ldn (t 11) 2),e 5 (.new 79 [.int .i64 0,.int .i64 0]) [],w (.stn (t 5) (t 12) 2) []] (.reg [m 13 3,q 14 (.fld (t 5) 0),l 15 14,e 16 (.bs1 3 1 (t 15)) [],e 17 (.raw (o (.call ⟨(.builtin .append),[t 13,t 16].toArray,[26,26].toArray⟩) 26)) [],m 3 17]))) (.reg [q 18 (.bin .add (t 9) (i 1)),m 9 18]))))))) (x [m 19 3,m 2 19] .ret))))
def m_tumbrellaw15_awake:MC:=(x [q 0 (.mov (.const (.bool false)))] (x [q 4 (.bld [.int .i64 0,.int .i64 0] [(0,(1,(i 256))),(1,(1,(i 512)))]),e 5 (.call 33 [t 4]) [],e 1 (.new 28 [.int .i64 0,.int .i64 0,.slice none 0 0,.slice none 0 0]) [],w (.stn (t 1) (t 5) 4) []] (x [r 0 7 (.ldn (t 1) 4),q 8 (.bld [.bool false,.int .i64 0,.int .i64 0,.int .i64 0] [(1,(1,(i 8))),(2,(1,(i 16)))]),e 9 (.call 15 [t 7,t 8]) [],m 6 9,q 10 (.ext (t 6) 0),q 11 (.ext (t 6) 1),e 2 (.new 28 [.int .i64 0,.int .i64 0,.slice none 0 0,.slice none 0 0]) [],w (.stn (t 2) (t 10) 4) [],m 3 11] (x [m 12 3,q 13 (.bin .eql (t 12) (i 0)),m 14 13,h 0 15 14 (.ldn (t 2) 4),g 0 16 14 (.bld [.bool false,.int .i64 0,.int .i64 0,.int .i64 0] [(1,(1,(i 16))),(2,(1,(i 16)))]),.e (some 17) (some (14,true)) (.call 18 [t 15,t 16]) [],g 0 18 14 (.un .not (t 17)),q 19 (.pick (t 14) (t 18) (.const (.bool false))),m 20 19,h 0 21 20 (.ldn (t 2) 4),g 0 22 20 (.bld [.bool false,.int .i64 0,.int .i64 0,.int .i64 0] [(0,(1,(.const (.bool true)))),(1,(1,(i 16))),(2,(1,(i (-1))))]),.e (some 23) (some (20,true)) (.call 18 [t 21,t 22]) [],q 24 (.pick (t 20) (t 23) (.const (.bool false))),m 25 24,h 0 26 25 (.ldn (t 2) 4),.e (some 27) (some (25,true)) (.call 11 [t 26]) [],g 0 28 25 (.len (t 27)),g 0 29 25 (.bin .eql (t 28) (i 1)),q 30 (.pick (t 25) (t 29) (.const (.bool false))),m 0 30] .ret))))
def m_spec_State_Key:MC:=(x [e 1 (.box 28 (t 0)) [],q 2 (.mov (.const (.string ⟨[].toArray⟩)))] (x [e 3 (.new 80 [.slice none 0 0]) []] (x [q 9 (.mkf (.func 34) [] [t 3]),m 4 9] (x [m 10 4,q 11 (.fld (t 1) 0),q 12 (.fld (t 11) 0),l 13 12,e 14 (.callv (t 10) [t 13]) []] (x [m 15 4,q 16 (.fld (t 1) 0),q 17 (.fld (t 16) 1),l 18 17,e 19 (.callv (t 15) [t 18]) []] (x [m 20 4,q 21 (.fld (t 1) 2),l 22 21,q 23 (.len (t 22)),e 24 (.callv (t 20) [t 23]) []] (s (x [q 25 (.fld (t 1) 2),l 26 25,q 27 (.len (t 26)),q 28 (.mov (i 0))] (.block 0 (.loop (x [q 29 (.bin .lss (t 28) (t 27))] (s (.cond (t 29) .skip (.exit 0)) (s (.block 1 (x [q 30 (.idx (t 26) (t 28) 2),r 0 31 (.ldn (t 30) 2),e 6 (.new 79 [.int .i64 0,.int .i64 0]) [],w (.stn (t 6) (t 31) 2) []] (x [m 32 4,q 33 (.fld (t 6) 0),l 34 33,e 35 (.callv (t 32) [t 34]) []] (.reg [m 36 4,q 37 (.fld (t 6) 1),l 38 37,e 39 (.callv (t 36) [t 38]) []])))) (.reg [q 40 (.bin .add (t 28) (i 1)),m 28 40]))))))) (s (x [q 41 (.fld (t 1) 3),l 42 41,q 43 (.len (t 42)),q 44 (.mov (i 0))] (.block 2 (.loop (x [q 45 (.bin .lss (t 44) (t 43))] (s (.cond (t 45) .skip (.exit 2)) (s (.block 3 (x [q 46 (.idx (t 42) (t 44) 1),l 47 46,m 8 47] (.reg [m 48 4,m 49 8,e 50 (.callv (t 48) [t 49]) []]))) (.reg [q 51 (.bin .add (t 44) (i 1)),m 44 51]))))))) (x [l 52 3,r 0 53 (.raw (o (.convert 80 9 (t 52)) 9)),m 2 53] .ret)))))))))
theorem e_spec_State_Key:EOk 13 54 m_spec_State_Key Try.f13:=fun hn h =>
 enter Try.func13 (c:=(Try.f13.body.getD .skip)) rfl (by kernel_rfl) (Nat.le_of_ble_eq_true hn) h
def m_tumbrellaw15_cut:MC:=(x [q 2 (.mov (.const (.slice none 0 0)))] (s (x [m 3 0,q 4 (.len (t 3)),q 5 (.bin .gtr (t 4) (i 15))] (.cond (t 5) (x [m 6 0,q 7 (.slc (t 6) none (some (i 15)) 4),m 2 7] .ret) .skip)) (x [m 8 0,m 2 8] .ret)))
def m_spec_State_Next:MC:=(x [e 2 (.box 28 (t 0)) [],e 3 (.box 48 (t 1)) [],e 4 (.new 28 [.int .i64 0,.int .i64 0,.slice none 0 0,.slice none 0 0]) [],q 5 (.mov (i 0))] (s (x [r 0 12 (.ldn (t 2) 4),r 0 13 (.ldn (t 3) 4),e 14 (.call 18 [t 12,t 13]) [],q 15 (.un .not (t 14))] (.cond (t 15) (x [q 16 (.bld [.int .i64 0,.int .i64 0,.slice none 0 0,.slice none 0 0] []),w (.stn (t 4) (t 16) 4) [],q 5 (.mov (i 8))] .ret) .skip)) (s (.regT (.q 0 (some 17) none (.fld (t 2) 0) false (.q 1 (some 18) none (.ldn (t 17) 2) true (.q 2 (some 19) none (.fld (t 2) 2) false (.q 3 (some 20) none (.ld (t 19)) true (.q 5 (some 22) none (.fld (t 2) 3) false (.q 6 (some 23) none (.ld (t 22)) true (.alt (.e (some 21) none (.call 36 [t 20]) [6,1] (.alt (.e (some 24) none (.call 37 [t 23]) [1] (.q 8 (some 25) none (.bld [.int .i64 0,.int .i64 0,.slice none 0 0,.slice none 0 0] [(0,(2,(t 18))),(2,(1,(t 21))),(3,(1,(t 24)))]) false (.e (some 6) none (.new 28 [.int .i64 0,.int .i64 0,.slice none 0 0,.slice none 0 0]) [1] (.e none none (.stn (t 6) (t 25) 4) [] .done)))) (.e (some 6) none (.new 28 [.int .i64 0,.int .i64 0,.slice none 0 0,.slice none 0 0]) [6,1] (.e (some 24) none (.call 37 [t 23]) [1] (.q 8 (some 25) none (.bld [.int .i64 0,.int .i64 0,.slice none 0 0,.slice none 0 0] [(0,(2,(t 18))),(2,(1,(t 21))),(3,(1,(t 24)))]) false (.e none none (.stn (t 6) (t 25) 4) [] .done)))))) (.e (some 6) none (.new 28 [.int .i64 0,.int .i64 0,.slice none 0 0,.slice none 0 0]) [6,3,1] (.e (some 21) none (.call 36 [t 20]) [6,1] (.e (some 24) none (.call 37 [t 23]) [1] (.q 8 (some 25) none (.bld [.int .i64 0,.int .i64 0,.slice none 0 0,.slice none 0 0] [(0,(2,(t 18))),(2,(1,(t 21))),(3,(1,(t 24)))]) false (.e none none (.stn (t 6) (t 25) 4) [] .done))))))))))))) (s (.block 0 (x [q 27 (.fld (t 3) 0),l 28 27,m 29 28,g 0 30 29 (.fld (t 3) 3),h 0 31 29 (.ld (t 30)),g 0 32 29 (.bin .eql (t 31) (i 0)),q 33 (.pick (t 29) (t 32) (.const (.bool false))),m 26 33] (.cond (t 26) (x [r 0 35 (.ldn (t 6) 4),q 36 (.fld (t 3) 1),l 37 36,e 38 (.call 38 [t 35,t 37]) [],m 34 38,q 39 (.ext (t 34) 0),q 40 (.ext (t 34) 1),m 7 39,m 8 40] (x [q 41 (.fld (t 6) 2),l 42 41,m 43 7,m 44 7,q 45 (.bin .add (t 44) (i 1)),e 46 (.call 39 [t 42,t 43,t 45]) [],q 47 (.fld (t 6) 2),w (.st (t 47) (t 46)) []] (x [q 49 (.fld (t 6) 3),l 50 49,q 51 (.fld (t 3) 1),l 52 51,e 53 (.call 40 [t 50,t 52]) [],m 48 53,q 54 (.ext (t 48) 0),q 55 (.ext (t 48) 1),m 7 54,m 9 55] (x [m 56 9,q 57 (.un .not (t 56))] (.cond (t 57) (.reg [q 58 (.fld (t 6) 3),l 59 58,m 60 7,q 61 (.fld (t 3) 1),l 62 61,e 63 (.bs1 3 1 (t 62)) [],e 64 (.call 41 [t 59,t 60,t 63]) [],q 65 (.fld (t 6) 3),w (.st (t 65) (t 64)) []]) .skip))))) (x [q 67 (.fld (t 3) 0),l 68 67,q 69 (.un .not (t 68)),m 70 69,g 0 71 70 (.fld (t 3) 2),h 0 72 70 (.ld (t 71)),g 0 73 70 (.bin .neq (t 72) (i (-1))),q 74 (.pick (t 70) (t 73) (.const (.bool false))),m 66 74] (.cond (t 66) (x [r 0 76 (.ldn (t 6) 4),q 77 (.fld (t 3) 2),l 78 77,e 79 (.call 38 [t 76,t 78]) [],m 75 79,q 80 (.ext (t 75) 0),q 81 (.ext (t 75) 1),m 10 80,m 11 81] (x [q 82 (.fld (t 6) 2),l 83 82,m 84 10,q 85 (.fld (t 3) 2),l 86 85,q 87 (.fld (t 3) 1),l 88 87,q 89 (.bld [.int .i64 0,.int .i64 0] [(0,(1,(t 86))),(1,(1,(t 88)))]),e 90 (.bs1 79 2 (t 89)) [],e 91 (.call 42 [t 83,t 84,t 90]) [],q 92 (.fld (t 6) 2),w (.st (t 92) (t 91)) []] (.reg [q 93 (.fld (t 6) 3),l 94 93,q 95 (.mkf (.func 44) [] [t 3]),e 96 (.call 43 [t 94,t 95]) [],q 97 (.fld (t 6) 3),w (.st (t 97) (t 96)) []]))) .skip))))) (x [r 0 98 (.ldn (t 6) 4),w (.stn (t 4) (t 98) 4) [],q 5 (.mov (i 0))] .ret)))))
theorem e_spec_State_Next:EOk 15 99 m_spec_State_Next Try.f15:=fun hn h =>
 enter Try.func15 (c:=(Try.f15.body.getD .skip)) rfl (by kernel_rfl) (Nat.le_of_ble_eq_true hn) h
def m_tumbrellaw15_Ours:MC:=(x [e 1 (.box 44 (t 0)) [],e 2 (.new 48 [.bool false,.int .i64 0,.int .i64 0,.int .i64 0]) []] (x [q 3 (.fld (t 1) 0),l 4 3,q 5 (.fld (t 1) 1),l 6 5,q 7 (.fld (t 1) 2),l 8 7,q 9 (.fld (t 1) 3),l 10 9,q 11 (.bld [.bool false,.int .i64 0,.int .i64 0,.int .i64 0] [(0,(1,(t 4))),(1,(1,(t 6))),(2,(1,(t 8))),(3,(1,(t 10)))]),w (.stn (t 2) (t 11) 4) []] .ret))
def m_tumbrelref15_Same:MC:=(x [e 2 (.box 31 (t 0)) [],e 3 (.box 31 (t 1)) [],q 4 (.mov (.const (.bool false)))] (s (x [q 15 (.fld (t 2) 0),l 16 15,q 17 (.fld (t 3) 0),l 18 17,q 19 (.bin .neq (t 16) (t 18)),m 20 19,n 0 21 20 (.fld (t 2) 1),p 0 22 20 (.ld (t 21)),n 0 23 20 (.fld (t 3) 1),p 0 24 20 (.ld (t 23)),n 0 25 20 (.bin .neq (t 22) (t 24)),q 26 (.pick (t 20) (.const (.bool true)) (t 25)),m 27 26,n 0 28 27 (.fld (t 2) 2),p 0 29 27 (.ld (t 28)),n 0 30 27 (.len (t 29)),n 0 31 27 (.fld (t 3) 2),p 0 32 27 (.ld (t 31)),n 0 33 27 (.len (t 32)),n 0 34 27 (.bin .neq (t 30) (t 33)),q 35 (.pick (t 27) (.const (.bool true)) (t 34)),m 36 35,n 0 37 36 (.fld (t 2) 3),p 0 38 36 (.ld (t 37)),n 0 39 36 (.len (t 38)),n 0 40 36 (.fld (t 3) 3),p 0 41 36 (.ld (t 40)),n 0 42 36 (.len (t 41)),n 0 43 36 (.bin .neq (t 39) (t 42)),q 44 (.pick (t 36) (.const (.bool true)) (t 43))] (.cond (t 44) (x [q 4 (.mov (.const (.bool false)))] .ret) .skip)) (s (x [q 45 (.fld (t 2) 2),l 46 45,q 47 (.len (t 46)),q 48 (.mov (i 0))] (.block 0 (.loop (x [q 49 (.bin .lss (t 48) (t 47))] (s (.cond (t 49) .skip (.exit 0)) (s (.block 1 (x [q 50 (.idx (t 46) (t 48) 2),r 0 51 (.ldn (t 50) 2),e 6 (.new 35 [.int .i64 0,.int .i64 0]) [],w (.stn (t 6) (t 51) 2) []] (x [q 7 (.mov (.const (.bool false)))] (s (x [q 52 (.fld (t 3) 2),l 53 52,q 54 (.len (t 53)),q 55 (.mov (i 0))] (.block 2 (.loop (x [q 56 (.bin .lss (t 55) (t 54))] (s (.cond (t 56) .skip (.exit 2)) (s (.block 3 (x [q 57 (.idx (t 53) (t 55) 2),r 0 58 (.ldn (t 57) 2),e 9 (.new 35 [.int .i64 0,.int .i64 0]) [],w (.stn (t 9) (t 58) 2) []] (.reg [m 59 7,m 60 59,p 0 61 60 (.ldn (t 6) 2),p 0 62 60 (.ldn (t 9) 2),p 0 63 60 (.raw (o (.binOp .eql 35 (t 61) (t 62) 35) 4)),q 64 (.pick (t 60) (.const (.bool true)) (t 63)),m 7 64]))) (.reg [q 65 (.bin .add (t 55) (i 1)),m 55 65]))))))) (x [m 66 7,q 67 (.un .not (t 66))] (.cond (t 67) (x [q 4 (.mov (.const (.bool false)))] .ret) .skip)))))) (.reg [q 68 (.bin .add (t 48) (i 1)),m 48 68]))))))) (s (x [q 69 (.fld (t 2) 3),l 70 69,q 71 (.len (t 70)),q 72 (.mov (i 0))] (.block 4 (.loop (x [q 73 (.bin .lss (t 72) (t 71))] (s (.cond (t 73) .skip (.exit 4)) (s (.block 5 (x [q 74 (.idx (t 70) (t 72) 1),l 75 74,m 11 75] (x [q 12 (.mov (.const (.bool false)))] (s (x [q 76 (.fld (t 3) 3),l 77 76,q 78 (.len (t 77)),q 79 (.mov (i 0))] (.block 6 (.loop (x [q 80 (.bin .lss (t 79) (t 78))] (s (.cond (t 80) .skip (.exit 6)) (s (.block 7 (x [q 81 (.idx (t 77) (t 79) 1),l 82 81,m 14 82] (.reg [m 83 12,m 84 83,n 0 85 84 (.mov (t 11)),n 0 86 84 (.mov (t 14)),n 0 87 84 (.bin .eql (t 85) (t 86)),q 88 (.pick (t 84) (.const (.bool true)) (t 87)),m 12 88]))) (.reg [q 89 (.bin .add (t 79) (i 1)),m 79 89]))))))) (x [m 90 12,q 91 (.un .not (t 90))] (.cond (t 91) (x [q 4 (.mov (.const (.bool false)))] .ret) .skip)))))) (.reg [q 92 (.bin .add (t 72) (i 1)),m 72 92]))))))) (x [q 4 (.mov (.const (.bool true)))] .ret)))))
def m_spec_State_May:MC:=(x [e 2 (.box 28 (t 0)) [],e 3 (.box 48 (t 1)) [],q 4 (.mov (.const (.bool false)))] (s (x [q 5 (.fld (t 3) 0),l 6 5] (.cond (t 6) (x [r 0 7 (.ldn (t 2) 4),r 0 8 (.ldn (t 3) 4),e 9 (.call 45 [t 7,t 8]) [],m 4 9] .ret) .skip)) (x [r 0 10 (.ldn (t 2) 4),r 0 11 (.ldn (t 3) 4),e 12 (.call 46 [t 10,t 11]) [],m 4 12] .ret)))
theorem e_spec_State_May:EOk 18 13 m_spec_State_May Try.f18:=fun hn h =>
 enter Try.func18 (c:=(Try.f18.body.getD .skip)) rfl (by kernel_rfl) (Nat.le_of_ble_eq_true hn) h
def m_tumbrelref15_Has:MC:=(x [e 2 (.box 31 (t 0)) [],q 4 (.mov (.const (.bool false)))] (s (x [q 7 (.fld (t 2) 2),l 8 7,q 9 (.len (t 8)),q 10 (.mov (i 0))] (.block 0 (.loop (x [q 11 (.bin .lss (t 10) (t 9))] (s (.cond (t 11) .skip (.exit 0)) (s (.block 1 (x [q 12 (.idx (t 8) (t 10) 2),r 0 13 (.ldn (t 12) 2),e 6 (.new 35 [.int .i64 0,.int .i64 0]) [],w (.stn (t 6) (t 13) 2) []] (x [q 14 (.fld (t 6) 0),l 15 14,m 16 1,q 17 (.bin .eql (t 15) (t 16))] (.cond (t 17) (x [q 4 (.mov (.const (.bool true)))] .ret) .skip)))) (.reg [q 18 (.bin .add (t 10) (i 1)),m 10 18]))))))) (x [q 4 (.mov (.const (.bool false)))] .ret)))
theorem e_tumbrelref15_Has:EOk 19 19 m_tumbrelref15_Has Try.f19:=fun hn h =>
 enter Try.func19 (c:=(Try.f19.body.getD .skip)) rfl (by kernel_rfl) (Nat.le_of_ble_eq_true hn) h
def m_tumbrellaw16_bounds:MC:=(x [e 4 (.new 24 [.int .i64 0,.int .i64 0]) [],e 5 (.new 31 [.int .i64 0,.int .i64 0,.slice none 0 0,.slice none 0 0]) []] (x [m 6 0,m 7 1,q 8 (.bld [.int .i64 0,.int .i64 0] [(0,(1,(t 6))),(1,(1,(t 7)))]),m 9 0,m 10 1,q 11 (.bld [.int .i64 0,.int .i64 0,.slice none 0 0,.slice none 0 0] [(0,(1,(t 9))),(1,(1,(t 10)))]),w (.stn (t 4) (t 8) 2) [],w (.stn (t 5) (t 11) 4) []] .ret))
theorem e_tumbrellaw16_bounds:EOk 20 12 m_tumbrellaw16_bounds Try.f20:=fun hn h =>
 enter Try.func20 (c:=(Try.f20.body.getD .skip)) rfl (by kernel_rfl) (Nat.le_of_ble_eq_true hn) h
def m_tumbrellaw16_few:MC:=(x [q 4 (.mov (.const (.slice none 0 0)))] (x [q 5 (.mov (.const (.slice none 0 0)))] (s (x [m 8 0,q 9 (.len (t 8)),q 10 (.mov (i 0))] (.block 0 (.loop (x [q 11 (.bin .lss (t 10) (t 9))] (s (.cond (t 11) .skip (.exit 0)) (s (.block 1 (x [m 12 10,q 13 (.idx (t 8) (t 10) 8),r 0 14 (.ldn (t 13) 8),e 7 (.new 94 [.int .i64 0,.bool false,.int .i64 0,.int .i64 0,.int .i64 0,.int .i64 0,.int .i64 0,.int .i64 0]) [],m 6 12,w (.stn (t 7) (t 14) 8) []] (s (x [m 15 6,m 16 1,q 17 (.bin .geq (t 15) (t 16))] (.cond (t 17) (.exit 0) .skip)) (x [q 18 (.fld (t 7) 5),l 19 18,q 20 (.bin .and (t 19) (i 15)),q 21 (.fld (t 7) 5),w (.st (t 21) (t 20)) []] (x [q 22 (.fld (t 7) 5),l 23 22,q 24 (.bin .add (t 23) (i 1)),q 25 (.fld (t 7) 7),l 26 25,q 27 (.bin .and (t 26) (i 7)),q 28 (.bin .add (t 24) (t 27)),q 29 (.fld (t 7) 7),w (.st (t 29) (t 28)) []] (.reg [m 30 5,r 0 31 (.ldn (t 7) 8),e 32 (.bs1 94 8 (t 31)) [],e 33 (.raw (o (.call ⟨(.builtin .append),[t 30,t 32].toArray,[56,56].toArray⟩) 56)) [],m 5 33])))))) (.reg [q 34 (.bin .add (t 10) (i 1)),m 10 34]))))))) (x [m 35 5,m 4 35] .ret))))
theorem e_tumbrellaw16_few:EOk 21 36 m_tumbrellaw16_few Try.f21:=fun hn h =>
 enter Try.func21 (c:=(Try.f21.body.getD .skip)) rfl (by kernel_rfl) (Nat.le_of_ble_eq_true hn) h
def m_linear_Order:MC:=(x [e 2 (.box 24 (t 0)) [],q 4 (.mov (.const (.slice none 0 0))),q 5 (.mov (.const (.bool false))),q 6 (.mov (i 0))] (s (x [m 8 1,q 9 (.len (t 8)),q 10 (.bin .gtr (t 9) (i 12))] (.cond (t 10) (x [q 4 (.mov (.const (.slice none 0 0))),q 5 (.mov (.const (.bool false))),q 6 (.mov (i 5))] .ret) .skip)) (x [m 11 1,e 12 (.raw (o (.makeMap 96 none) 96)) [],q 13 (.bld [.slice none 0 0,.map none,.slice none 0 0] [(0,(1,(t 11))),(1,(1,(t 12)))]),e 14 (.box 98 (t 13)) [],m 7 14] (s (x [m 15 7,r 0 16 (.ldn (t 2) 2),e 17 (.call 33 [t 16]) [],e 18 (.call 47 [t 15,t 17,i 0]) [],q 19 (.un .not (t 18))] (.cond (t 19) (x [q 4 (.mov (.const (.slice none 0 0))),q 5 (.mov (.const (.bool false))),q 6 (.mov (i 0))] .ret) .skip)) (x [m 20 7,q 21 (.nilc (t 20)),q 22 (.fld (t 21) 2),l 23 22,m 4 23,q 5 (.mov (.const (.bool true))),q 6 (.mov (i 0))] .ret)))))
theorem e_linear_Order:EOk 22 24 m_linear_Order Try.f22:=fun hn h =>
 enter Try.func22 (c:=(Try.f22.body.getD .skip)) rfl (by kernel_rfl) (Nat.le_of_ble_eq_true hn) h
def m_tumbrellaw16_ours:MC:=(x [q 2 (.mov (.const (.slice none 0 0)))] (x [q 3 (.mov (.const (.slice none 0 0)))] (s (x [m 6 0,q 7 (.len (t 6)),q 8 (.mov (i 0))] (.block 0 (.loop (x [q 9 (.bin .lss (t 8) (t 7))] (s (.cond (t 9) .skip (.exit 0)) (s (.block 1 (x [q 10 (.idx (t 6) (t 8) 8),r 0 11 (.ldn (t 10) 8),e 5 (.new 94 [.int .i64 0,.bool false,.int .i64 0,.int .i64 0,.int .i64 0,.int .i64 0,.int .i64 0,.int .i64 0]) [],w (.stn (t 5) (t 11) 8) []] (.reg [m 12 3,q 13 (.fld (t 5) 0),l 14 13,q 15 (.fld (t 5) 1),l 16 15,q 17 (.fld (t 5) 2),l 18 17,q 19 (.fld (t 5) 3),l 20 19,q 21 (.fld (t 5) 4),l 22 21,q 23 (.fld (t 5) 5),l 24 23,q 25 (.fld (t 5) 6),l 26 25,q 27 (.fld (t 5) 7),l 28 27,q 29 (.bld [.int .i64 0,.bool false,.int .i64 0,.int .i64 0,.int .i64 0,.int .i64 0,.int .i64 0,.int .i64 0] [(0,(1,(t 14))),(1,(1,(t 16))),(2,(1,(t 18))),(3,(1,(t 20))),(4,(1,(t 22))),(5,(1,(t 24))),(6,(1,(t 26))),(7,(1,(t 28)))]),e 30 (.bs1 70 8 (t 29)) [],e 31 (.raw (o (.call ⟨(.builtin .append),[t 12,t 30].toArray,[62,62].toArray⟩) 62)) [],m 3 31]))) (.reg [q 32 (.bin .add (t 8) (i 1)),m 8 32]))))))) (x [m 33 3,m 2 33] .ret))))
theorem e_tumbrellaw16_ours:EOk 23 34 m_tumbrellaw16_ours Try.f23:=fun hn h =>
 enter Try.func23 (c:=(Try.f23.body.getD .skip)) rfl (by kernel_rfl) (Nat.le_of_ble_eq_true hn) h
def m_tumbrelref16_First:MC:=(x [e 4 (.box 31 (t 0)) [],q 8 (.mov (.const (.slice none 0 0))),q 9 (.mov (.const (.bool false)))] (s (x [m 16 2,q 17 (.len (t 16)),m 18 1,q 19 (.len (t 18)),q 20 (.bin .eql (t 17) (t 19))] (.cond (t 20) (x [m 21 2,m 8 21,q 9 (.mov (.const (.bool true)))] .ret) .skip)) (s (x [q 10 (.mov (i 0))] (.block 0 (.loop (s (x [m 22 3,q 23 (.bin .gtr (t 22) (i 0)),m 24 23,g 0 25 24 (.mov (t 10)),g 0 26 24 (.mov (t 1)),g 0 27 24 (.len (t 26)),g 0 28 24 (.bin .lss (t 25) (t 27)),q 29 (.pick (t 24) (t 28) (.const (.bool false)))] (.cond (t 29) .skip (.exit 0))) (s (.block 1 (x [r 0 32 (.ldn (t 4) 4),k 1 33 (.mov (t 1)),k 2 34 (.mov (t 10)),k 3 35 (.idx (t 33) (t 34) 8),r 4 36 (.ldn (t 35) 8),e 37 (.call 48 [t 36]) [0],e 38 (.call 28 [t 32,t 37]) [],k 7 11 (.mov (t 38))] (s (x [m 39 2,q 40 (.len (t 39)),q 41 (.mov (i 0))] (.block 2 (.loop (x [q 42 (.bin .lss (t 41) (t 40))] (s (.cond (t 42) .skip (.exit 2)) (s (.block 3 (x [q 43 (.idx (t 39) (t 41) 1),l 44 43,m 13 44] (.reg [m 45 11,k 1 46 (.mov (t 45)),g 2 47 46 (.mov (t 13)),g 3 48 46 (.mov (t 10)),g 4 49 46 (.bin .neq (t 47) (t 48)),k 5 50 (.pick (t 46) (t 49) (.const (.bool false))),k 6 51 (.mov (t 50)),g 7 52 51 (.mov (t 1)),g 8 53 51 (.mov (t 10)),g 9 54 51 (.idx (t 52) (t 53) 8),g 10 55 51 (.fld (t 54) 7),h 11 56 51 (.ld (t 55)),g 12 57 51 (.mov (t 1)),g 13 58 51 (.mov (t 13)),g 14 59 51 (.idx (t 57) (t 58) 8),g 15 60 51 (.fld (t 59) 5),h 16 61 51 (.ld (t 60)),g 17 62 51 (.bin .gtr (t 56) (t 61)),k 18 63 (.pick (t 51) (t 62) (.const (.bool false))),k 19 11 (.mov (t 63))]))) (.reg [q 64 (.bin .add (t 41) (i 1)),m 41 64]))))))) (s (x [m 65 11,q 66 (.un .not (t 65))] (.cond (t 66) (.exit 1) .skip)) (s (.regT (.q 0 (some 68) none (.ldn (t 4) 4) true (.q 1 (some 69) none (.mov (t 1)) false (.q 2 (some 70) none (.mov (t 10)) false (.q 3 (some 71) none (.idx (t 69) (t 70) 8) false (.q 4 (some 72) none (.ldn (t 71) 8) true (.q 7 (some 75) none (.mov (t 1)) false (.q 9 (some 77) none (.mov (t 2)) false (.q 11 (some 79) none (.mov (t 10)) false (.q 14 (some 82) none (.mov (t 3)) false (.q 15 (some 83) none (.bin .sub (t 82) (i 1)) false (.alt (.e (some 73) none (.call 48 [t 72]) [0] (.alt (.e (some 74) none (.call 29 [t 68,t 73]) [] (.alt (.e (some 76) none (.bs0 3) [] (.alt (.e (some 78) none (.raw (o (.call ⟨(.builtin .append),[t 76,t 77].toArray,[26,26].toArray⟩) 26)) [] (.e (some 80) none (.bs1 3 1 (t 79)) [] (.e (some 81) none (.raw (o (.call ⟨(.builtin .append),[t 78,t 80].toArray,[26,26].toArray⟩) 26)) [] (.e (some 84) none (.call 24 [t 74,t 75,t 81,t 83]) [] (.q 17 (some 67) none (.mov (t 84)) false (.q 18 (some 85) none (.ext (t 67) 0) false (.q 19 (some 86) none (.ext (t 67) 1) false (.q 20 (some 14) none (.mov (t 85)) false (.q 21 (some 15) none (.mov (t 86)) false .done))))))))) (.e (some 80) none (.bs1 3 1 (t 79)) [] (.e (some 78) none (.raw (o (.call ⟨(.builtin .append),[t 76,t 77].toArray,[26,26].toArray⟩) 26)) [] (.e (some 81) none (.raw (o (.call ⟨(.builtin .append),[t 78,t 80].toArray,[26,26].toArray⟩) 26)) [] (.e (some 84) none (.call 24 [t 74,t 75,t 81,t 83]) [] (.q 17 (some 67) none (.mov (t 84)) false (.q 18 (some 85) none (.ext (t 67) 0) false (.q 19 (some 86) none (.ext (t 67) 1) false (.q 20 (some 14) none (.mov (t 85)) false (.q 21 (some 15) none (.mov (t 86)) false .done))))))))))) (.e (some 80) none (.bs1 3 1 (t 79)) [] (.e (some 76) none (.bs0 3) [] (.e (some 78) none (.raw (o (.call ⟨(.builtin .append),[t 76,t 77].toArray,[26,26].toArray⟩) 26)) [] (.e (some 81) none (.raw (o (.call ⟨(.builtin .append),[t 78,t 80].toArray,[26,26].toArray⟩) 26)) [] (.e (some 84) none (.call 24 [t 74,t 75,t 81,t 83]) [] (.q 17 (some 67) none (.mov (t 84)) false (.q 18 (some 85) none (.ext (t 67) 0) false (.q 19 (some 86) none (.ext (t 67) 1) false (.q 20 (some 14) none (.mov (t 85)) false (.q 21 (some 15) none (.mov (t 86)) false .done)))))))))))) (.alt (.e (some 76) none (.bs0 3) [0] (.alt (.e (some 74) none (.call 29 [t 68,t 73]) [] (.alt (.e (some 78) none (.raw (o (.call ⟨(.builtin .append),[t 76,t 77].toArray,[26,26].toArray⟩) 26)) [] (.e (some 80) none (.bs1 3 1 (t 79)) [] (.e (some 81) none (.raw (o (.call ⟨(.builtin .append),[t 78,t 80].toArray,[26,26].toArray⟩) 26)) [] (.e (some 84) none (.call 24 [t 74,t 75,t 81,t 83]) [] (.q 17 (some 67) none (.mov (t 84)) false (.q 18 (some 85) none (.ext (t 67) 0) false (.q 19 (some 86) none (.ext (t 67) 1) false (.q 20 (some 14) none (.mov (t 85)) false (.q 21 (some 15) none (.mov (t 86)) false .done))))))))) (.e (some 80) none (.bs1 3 1 (t 79)) [] (.e (some 78) none (.raw (o (.call ⟨(.builtin .append),[t 76,t 77].toArray,[26,26].toArray⟩) 26)) [] (.e (some 81) none (.raw (o (.call ⟨(.builtin .append),[t 78,t 80].toArray,[26,26].toArray⟩) 26)) [] (.e (some 84) none (.call 24 [t 74,t 75,t 81,t 83]) [] (.q 17 (some 67) none (.mov (t 84)) false (.q 18 (some 85) none (.ext (t 67) 0) false (.q 19 (some 86) none (.ext (t 67) 1) false (.q 20 (some 14) none (.mov (t 85)) false (.q 21 (some 15) none (.mov (t 86)) false .done))))))))))) (.e (some 80) none (.bs1 3 1 (t 79)) [0] (.e (some 74) none (.call 29 [t 68,t 73]) [] (.e (some 78) none (.raw (o (.call ⟨(.builtin .append),[t 76,t 77].toArray,[26,26].toArray⟩) 26)) [] (.e (some 81) none (.raw (o (.call ⟨(.builtin .append),[t 78,t 80].toArray,[26,26].toArray⟩) 26)) [] (.e (some 84) none (.call 24 [t 74,t 75,t 81,t 83]) [] (.q 17 (some 67) none (.mov (t 84)) false (.q 18 (some 85) none (.ext (t 67) 0) false (.q 19 (some 86) none (.ext (t 67) 1) false (.q 20 (some 14) none (.mov (t 85)) false (.q 21 (some 15) none (.mov (t 86)) false .done)))))))))))) (.e (some 80) none (.bs1 3 1 (t 79)) [0] (.alt (.e (some 74) none (.call 29 [t 68,t 73]) [] (.e (some 76) none (.bs0 3) [] (.e (some 78) none (.raw (o (.call ⟨(.builtin .append),[t 76,t 77].toArray,[26,26].toArray⟩) 26)) [] (.e (some 81) none (.raw (o (.call ⟨(.builtin .append),[t 78,t 80].toArray,[26,26].toArray⟩) 26)) [] (.e (some 84) none (.call 24 [t 74,t 75,t 81,t 83]) [] (.q 17 (some 67) none (.mov (t 84)) false (.q 18 (some 85) none (.ext (t 67) 0) false (.q 19 (some 86) none (.ext (t 67) 1) false (.q 20 (some 14) none (.mov (t 85)) false (.q 21 (some 15) none (.mov (t 86)) false .done)))))))))) (.e (some 76) none (.bs0 3) [0] (.e (some 74) none (.call 29 [t 68,t 73]) [] (.e (some 78) none (.raw (o (.call ⟨(.builtin .append),[t 76,t 77].toArray,[26,26].toArray⟩) 26)) [] (.e (some 81) none (.raw (o (.call ⟨(.builtin .append),[t 78,t 80].toArray,[26,26].toArray⟩) 26)) [] (.e (some 84) none (.call 24 [t 74,t 75,t 81,t 83]) [] (.q 17 (some 67) none (.mov (t 84)) false (.q 18 (some 85) none (.ext (t 67) 0) false (.q 19 (some 86) none (.ext (t 67) 1) false (.q 20 (some 14) none (.mov (t 85)) false (.q 21 (some 15) none (.mov (t 86)) false .done))))))))))))))) (.alt (.e (some 76) none (.bs0 3) [4,0] (.alt (.e (some 73) none (.call 48 [t 72]) [0] (.alt (.e (some 74) none (.call 29 [t 68,t 73]) [] (.alt (.e (some 78) none (.raw (o (.call ⟨(.builtin .append),[t 76,t 77].toArray,[26,26].toArray⟩) 26)) [] (.e (some 80) none (.bs1 3 1 (t 79)) [] (.e (some 81) none (.raw (o (.call ⟨(.builtin .append),[t 78,t 80].toArray,[26,26].toArray⟩) 26)) [] (.e (some 84) none (.call 24 [t 74,t 75,t 81,t 83]) [] (.q 17 (some 67) none (.mov (t 84)) false (.q 18 (some 85) none (.ext (t 67) 0) false (.q 19 (some 86) none (.ext (t 67) 1) false (.q 20 (some 14) none (.mov (t 85)) false (.q 21 (some 15) none (.mov (t 86)) false .done))))))))) (.e (some 80) none (.bs1 3 1 (t 79)) [] (.e (some 78) none (.raw (o (.call ⟨(.builtin .append),[t 76,t 77].toArray,[26,26].toArray⟩) 26)) [] (.e (some 81) none (.raw (o (.call ⟨(.builtin .append),[t 78,t 80].toArray,[26,26].toArray⟩) 26)) [] (.e (some 84) none (.call 24 [t 74,t 75,t 81,t 83]) [] (.q 17 (some 67) none (.mov (t 84)) false (.q 18 (some 85) none (.ext (t 67) 0) false (.q 19 (some 86) none (.ext (t 67) 1) false (.q 20 (some 14) none (.mov (t 85)) false (.q 21 (some 15) none (.mov (t 86)) false .done))))))))))) (.e (some 80) none (.bs1 3 1 (t 79)) [0] (.e (some 74) none (.call 29 [t 68,t 73]) [] (.e (some 78) none (.raw (o (.call ⟨(.builtin .append),[t 76,t 77].toArray,[26,26].toArray⟩) 26)) [] (.e (some 81) none (.raw (o (.call ⟨(.builtin .append),[t 78,t 80].toArray,[26,26].toArray⟩) 26)) [] (.e (some 84) none (.call 24 [t 74,t 75,t 81,t 83]) [] (.q 17 (some 67) none (.mov (t 84)) false (.q 18 (some 85) none (.ext (t 67) 0) false (.q 19 (some 86) none (.ext (t 67) 1) false (.q 20 (some 14) none (.mov (t 85)) false (.q 21 (some 15) none (.mov (t 86)) false .done)))))))))))) (.e (some 80) none (.bs1 3 1 (t 79)) [4,0] (.e (some 73) none (.call 48 [t 72]) [0] (.e (some 74) none (.call 29 [t 68,t 73]) [] (.e (some 78) none (.raw (o (.call ⟨(.builtin .append),[t 76,t 77].toArray,[26,26].toArray⟩) 26)) [] (.e (some 81) none (.raw (o (.call ⟨(.builtin .append),[t 78,t 80].toArray,[26,26].toArray⟩) 26)) [] (.e (some 84) none (.call 24 [t 74,t 75,t 81,t 83]) [] (.q 17 (some 67) none (.mov (t 84)) false (.q 18 (some 85) none (.ext (t 67) 0) false (.q 19 (some 86) none (.ext (t 67) 1) false (.q 20 (some 14) none (.mov (t 85)) false (.q 21 (some 15) none (.mov (t 86)) false .done))))))))))))) (.e (some 80) none (.bs1 3 1 (t 79)) [4,0] (.alt (.e (some 73) none (.call 48 [t 72]) [0] (.alt (.e (some 74) none (.call 29 [t 68,t 73]) [] (.e (some 76) none (.bs0 3) [] (.e (some 78) none (.raw (o (.call ⟨(.builtin .append),[t 76,t 77].toArray,[26,26].toArray⟩) 26)) [] (.e (some 81) none (.raw (o (.call ⟨(.builtin .append),[t 78,t 80].toArray,[26,26].toArray⟩) 26)) [] (.e (some 84) none (.call 24 [t 74,t 75,t 81,t 83]) [] (.q 17 (some 67) none (.mov (t 84)) false (.q 18 (some 85) none (.ext (t 67) 0) false (.q 19 (some 86) none (.ext (t 67) 1) false (.q 20 (some 14) none (.mov (t 85)) false (.q 21 (some 15) none (.mov (t 86)) false .done)))))))))) (.e (some 76) none (.bs0 3) [0] (.e (some 74) none (.call 29 [t 68,t 73]) [] (.e (some 78) none (.raw (o (.call ⟨(.builtin .append),[t 76,t 77].toArray,[26,26].toArray⟩) 26)) [] (.e (some 81) none (.raw (o (.call ⟨(.builtin .append),[t 78,t 80].toArray,[26,26].toArray⟩) 26)) [] (.e (some 84) none (.call 24 [t 74,t 75,t 81,t 83]) [] (.q 17 (some 67) none (.mov (t 84)) false (.q 18 (some 85) none (.ext (t 67) 0) false (.q 19 (some 86) none (.ext (t 67) 1) false (.q 20 (some 14) none (.mov (t 85)) false (.q 21 (some 15) none (.mov (t 86)) false .done)))))))))))) (.e (some 76) none (.bs0 3) [4,0] (.e (some 73) none (.call 48 [t 72]) [0] (.e (some 74) none (.call 29 [t 68,t 73]) [] (.e (some 78) none (.raw (o (.call ⟨(.builtin .append),[t 76,t 77].toArray,[26,26].toArray⟩) 26)) [] (.e (some 81) none (.raw (o (.call ⟨(.builtin .append),[t 78,t 80].toArray,[26,26].toArray⟩) 26)) [] (.e (some 84) none (.call 24 [t 74,t 75,t 81,t 83]) [] (.q 17 (some 67) none (.mov (t 84)) false (.q 18 (some 85) none (.ext (t 67) 0) false (.q 19 (some 86) none (.ext (t 67) 1) false (.q 20 (some 14) none (.mov (t 85)) false (.q 21 (some 15) none (.mov (t 86)) false .done)))))))))))))))))))))))))) (x [m 87 15] (.cond (t 87) (x [m 88 14,m 8 88,q 9 (.mov (.const (.bool true)))] .ret) .skip))))))) (.reg [m 30 10,q 31 (.bin .add (t 30) (i 1)),m 10 31])))))) (x [q 8 (.mov (.const (.slice none 0 0))),q 9 (.mov (.const (.bool false)))] .ret))))
def m_tumbrellaw16_same:MC:=(x [q 4 (.mov (.const (.bool false)))] (s (x [m 6 0,q 7 (.len (t 6)),m 8 1,q 9 (.len (t 8)),q 10 (.bin .neq (t 7) (t 9))] (.cond (t 10) (x [q 4 (.mov (.const (.bool false)))] .ret) .skip)) (s (x [m 11 0,q 12 (.len (t 11)),q 13 (.mov (i 0))] (.block 0 (.loop (x [q 14 (.bin .lss (t 13) (t 12))] (s (.cond (t 14) .skip (.exit 0)) (s (.block 1 (x [m 15 13,m 5 15] (x [m 16 0,k 1 17 (.mov (t 5)),k 2 18 (.idx (t 16) (t 17) 1),r 3 19 (.ld (t 18)),k 4 20 (.mov (t 1)),k 5 21 (.mov (t 5)),k 6 22 (.idx (t 20) (t 21) 1),r 7 23 (.ld (t 22)),k 8 24 (.bin .neq (t 19) (t 23))] (.cond (t 24) (x [q 4 (.mov (.const (.bool false)))] .ret) .skip)))) (.reg [q 25 (.bin .add (t 13) (i 1)),m 13 25]))))))) (x [q 4 (.mov (.const (.bool true)))] .ret))))
theorem e_tumbrellaw16_same:EOk 25 26 m_tumbrellaw16_same Try.f25:=fun hn h =>
 enter Try.func25 (c:=(Try.f25.body.getD .skip)) rfl (by kernel_rfl) (Nat.le_of_ble_eq_true hn) h
def m_linear_Right:MC:=(x [e 3 (.box 24 (t 0)) [],q 6 (.mov (.const (.bool false)))] (s (x [m 14 2,m 15 1,q 16 (.len (t 15)),e 17 (.call 49 [t 14,t 16]) [],q 18 (.un .not (t 17))] (.cond (t 18) (x [q 6 (.mov (.const (.bool false)))] .ret) .skip)) (x [r 0 19 (.ldn (t 3) 2),e 20 (.call 33 [t 19]) [],e 7 (.new 28 [.int .i64 0,.int .i64 0,.slice none 0 0,.slice none 0 0]) [],w (.stn (t 7) (t 20) 4) []] (s (x [m 21 2,q 22 (.len (t 21)),q 23 (.mov (i 0))] (.block 0 (.loop (x [q 24 (.bin .lss (t 23) (t 22))] (s (.cond (t 24) .skip (.exit 0)) (s (.block 1 (x [m 25 23,q 26 (.idx (t 21) (t 23) 1),l 27 26,m 8 25,m 9 27] (s (x [m 28 2,m 29 8,q 30 (.bin .add (t 29) (i 1)),q 31 (.slc (t 28) (some (t 30)) none 1),q 32 (.len (t 31)),q 33 (.mov (i 0))] (.block 2 (.loop (x [q 34 (.bin .lss (t 33) (t 32))] (s (.cond (t 34) .skip (.exit 2)) (s (.block 3 (x [q 35 (.idx (t 31) (t 33) 1),l 36 35,m 11 36] (x [m 37 1,k 1 38 (.mov (t 11)),k 2 39 (.idx (t 37) (t 38) 8),r 3 40 (.ldn (t 39) 8),k 4 41 (.mov (t 1)),k 5 42 (.mov (t 9)),k 6 43 (.idx (t 41) (t 42) 8),r 7 44 (.ldn (t 43) 8),e 45 (.call 50 [t 40,t 44]) []] (.cond (t 45) (x [q 6 (.mov (.const (.bool false)))] .ret) .skip)))) (.reg [q 46 (.bin .add (t 33) (i 1)),m 33 46]))))))) (s (.regT (.q 0 (some 48) none (.ldn (t 7) 4) true (.q 1 (some 49) none (.mov (t 1)) false (.q 2 (some 50) none (.mov (t 9)) false (.q 3 (some 51) none (.idx (t 49) (t 50) 8) false (.q 4 (some 52) none (.ldn (t 51) 8) true (.alt (.e (some 53) none (.call 51 [t 52]) [0] (.alt (.e (some 54) none (.call 15 [t 48,t 53]) [] (.q 7 (some 47) none (.mov (t 54)) false (.q 8 (some 55) none (.ext (t 47) 0) false (.q 9 (some 56) none (.ext (t 47) 1) false (.e (some 12) none (.new 28 [.int .i64 0,.int .i64 0,.slice none 0 0,.slice none 0 0]) [] (.e none none (.stn (t 12) (t 55) 4) [] (.q 12 (some 13) none (.mov (t 56)) false .done))))))) (.e (some 12) none (.new 28 [.int .i64 0,.int .i64 0,.slice none 0 0,.slice none 0 0]) [0] (.e (some 54) none (.call 15 [t 48,t 53]) [] (.q 7 (some 47) none (.mov (t 54)) false (.q 8 (some 55) none (.ext (t 47) 0) false (.q 9 (some 56) none (.ext (t 47) 1) false (.e none none (.stn (t 12) (t 55) 4) [] (.q 12 (some 13) none (.mov (t 56)) false .done))))))))) (.e (some 12) none (.new 28 [.int .i64 0,.int .i64 0,.slice none 0 0,.slice none 0 0]) [4,0] (.e (some 53) none (.call 51 [t 52]) [0] (.e (some 54) none (.call 15 [t 48,t 53]) [] (.q 7 (some 47) none (.mov (t 54)) false (.q 8 (some 55) none (.ext (t 47) 0) false (.q 9 (some 56) none (.ext (t 47) 1) false (.e none none (.stn (t 12) (t 55) 4) [] (.q 12 (some 13) none (.mov (t 56)) false .done))))))))))))))) (s (x [m 57 13,q 58 (.bin .neq (t 57) (i 0))] (.cond (t 58) (x [q 6 (.mov (.const (.bool false)))] .ret) .skip)) (.reg [r 0 59 (.ldn (t 12) 4),w (.stn (t 7) (t 59) 4) []])))))) (.reg [q 60 (.bin .add (t 23) (i 1)),m 23 60]))))))) (x [q 6 (.mov (.const (.bool true)))] .ret)))))
theorem e_linear_Right:EOk 26 61 m_linear_Right Try.f26:=fun hn h =>
 enter Try.func26 (c:=(Try.f26.body.getD .skip)) rfl (by kernel_rfl) (Nat.le_of_ble_eq_true hn) h
def m_tumbrellaw16_awake:MC:=(x [q 0 (.mov (.const (.bool false)))] (x [e 11 (.call 20 [i 256,i 256]) [],m 10 11,q 12 (.ext (t 10) 0),q 13 (.ext (t 10) 1),e 1 (.new 24 [.int .i64 0,.int .i64 0]) [],e 2 (.new 31 [.int .i64 0,.int .i64 0,.slice none 0 0,.slice none 0 0]) [],w (.stn (t 1) (t 12) 2) [],w (.stn (t 2) (t 13) 4) []] (x [q 14 (.bld [.int .i64 0,.bool false,.int .i64 0,.int .i64 0,.int .i64 0,.int .i64 0,.int .i64 0,.int .i64 0] [(2,(1,(i 8))),(6,(1,(i 1))),(7,(1,(i 3)))]),q 15 (.bld [.int .i64 0,.bool false,.int .i64 0,.int .i64 0,.int .i64 0,.int .i64 0,.int .i64 0,.int .i64 0] [(0,(1,(i 1))),(2,(1,(i 8))),(6,(1,(i 2))),(7,(1,(i 4)))]),e 16 (.raw (o (.buildSlice 62 2 [(0,(t 14)),(1,(t 15))].toArray) 62)) [],m 3 16] (x [r 0 18 (.ldn (t 1) 2),m 19 3,e 20 (.call 22 [t 18,t 19]) [],m 17 20,q 21 (.ext (t 17) 0),q 22 (.ext (t 17) 1),q 23 (.ext (t 17) 2),m 4 21,m 5 22,m 6 23] (x [m 24 3,q 25 (.idx (t 24) (i 1) 8),q 26 (.fld (t 25) 3),w (.st (t 26) (i 16)) []] (x [r 0 28 (.ldn (t 1) 2),m 29 3,e 30 (.call 22 [t 28,t 29]) [],m 27 30,q 31 (.ext (t 27) 0),q 32 (.ext (t 27) 1),q 33 (.ext (t 27) 2),m 7 31,m 8 32,m 9 33] (x [m 34 5,q 35 (.un .not (t 34)),m 36 35,g 0 37 36 (.mov (t 6)),g 0 38 36 (.bin .eql (t 37) (i 0)),q 39 (.pick (t 36) (t 38) (.const (.bool false))),m 40 39,g 0 41 40 (.mov (t 8)),q 42 (.pick (t 40) (t 41) (.const (.bool false))),m 43 42,g 0 44 43 (.mov (t 9)),g 0 45 43 (.bin .eql (t 44) (i 0)),q 46 (.pick (t 43) (t 45) (.const (.bool false))),m 47 46,g 0 48 47 (.mov (t 7)),.e (some 49) (some (47,true)) (.raw (o (.buildSlice 26 2 [(0,(i 0)),(1,(i 1))].toArray) 26)) [],.e (some 50) (some (47,true)) (.call 25 [t 48,t 49]) [],q 51 (.pick (t 47) (t 50) (.const (.bool false))),m 0 51] .ret)))))))
theorem e_tumbrellaw16_awake:EOk 27 52 m_tumbrellaw16_awake Try.f27:=fun hn h =>
 enter Try.func27 (c:=(Try.f27.body.getD .skip)) rfl (by kernel_rfl) (Nat.le_of_ble_eq_true hn) h
def m_tumbrelref15_May:MC:=(x [e 2 (.box 31 (t 0)) [],e 3 (.box 44 (t 1)) [],q 4 (.mov (.const (.bool false)))] (s (x [q 11 (.fld (t 3) 0),l 12 11,q 13 (.un .not (t 12))] (.cond (t 13) (x [r 0 14 (.ldn (t 2) 4),r 0 15 (.ldn (t 3) 4),e 16 (.call 52 [t 14,t 15]) [],m 4 16] .ret) .skip)) (s (x [q 17 (.fld (t 3) 2),l 18 17,q 19 (.bin .neq (t 18) (i (-1)))] (.cond (t 19) (x [q 4 (.mov (.const (.bool false)))] .ret) .skip)) (s (x [q 20 (.fld (t 3) 1),l 21 20,q 22 (.bin .lss (t 21) (i 0)),m 23 22,n 0 24 23 (.fld (t 3) 1),p 0 25 23 (.ld (t 24)),n 0 26 23 (.fld (t 2) 1),p 0 27 23 (.ld (t 26)),n 0 28 23 (.bin .geq (t 25) (t 27)),q 29 (.pick (t 23) (.const (.bool true)) (t 28))] (.cond (t 29) (x [q 30 (.fld (t 3) 3),l 31 30,q 32 (.bin .eql (t 31) (i 1)),m 4 32] .ret) .skip)) (s (x [q 33 (.fld (t 3) 1),l 34 33,q 35 (.fld (t 2) 0),l 36 35,q 37 (.bin .geq (t 34) (t 36))] (.cond (t 37) (x [q 38 (.fld (t 3) 3),l 39 38,q 40 (.bin .eql (t 39) (i 2)),m 4 40] .ret) .skip)) (s (x [r 0 41 (.ldn (t 2) 4),q 42 (.fld (t 3) 1),l 43 42,e 44 (.call 19 [t 41,t 43]) []] (.cond (t 44) (x [q 45 (.fld (t 3) 3),l 46 45,q 47 (.bin .eql (t 46) (i 0)),m 4 47] .ret) .skip)) (x [q 5 (.mov (.const (.bool false))),q 6 (.mov (.const (.bool false)))] (s (x [q 48 (.fld (t 2) 2),l 49 48,q 50 (.len (t 49)),q 51 (.mov (i 0))] (.block 0 (.loop (x [q 52 (.bin .lss (t 51) (t 50))] (s (.cond (t 52) .skip (.exit 0)) (s (.block 1 (x [q 53 (.idx (t 49) (t 51) 2),r 0 54 (.ldn (t 53) 2),e 8 (.new 35 [.int .i64 0,.int .i64 0]) [],w (.stn (t 8) (t 54) 2) []] (.reg [m 55 5,m 56 55,n 0 57 56 (.fld (t 8) 0),p 0 58 56 (.ld (t 57)),n 0 59 56 (.fld (t 3) 1),p 0 60 56 (.ld (t 59)),n 0 61 56 (.bin .lss (t 58) (t 60)),q 62 (.pick (t 56) (.const (.bool true)) (t 61)),m 5 62]))) (.reg [q 63 (.bin .add (t 51) (i 1)),m 51 63]))))))) (s (x [q 64 (.fld (t 2) 3),l 65 64,q 66 (.len (t 65)),q 67 (.mov (i 0))] (.block 2 (.loop (x [q 68 (.bin .lss (t 67) (t 66))] (s (.cond (t 68) .skip (.exit 2)) (s (.block 3 (x [q 69 (.idx (t 65) (t 67) 1),l 70 69,m 10 70] (.reg [m 71 6,m 72 71,n 0 73 72 (.mov (t 10)),n 0 74 72 (.fld (t 3) 1),p 0 75 72 (.ld (t 74)),n 0 76 72 (.bin .eql (t 73) (t 75)),q 77 (.pick (t 72) (.const (.bool true)) (t 76)),m 6 77]))) (.reg [q 78 (.bin .add (t 67) (i 1)),m 67 78]))))))) (x [q 79 (.fld (t 3) 3),l 80 79,q 81 (.bin .eql (t 80) (i 3)),m 82 81,n 0 83 82 (.fld (t 3) 3),p 0 84 82 (.ld (t 83)),n 0 85 82 (.bin .eql (t 84) (i 4)),n 0 86 82 (.mov (t 85)),g 0 87 86 (.mov (t 5)),n 0 88 82 (.pick (t 86) (t 87) (.const (.bool false))),q 89 (.pick (t 82) (.const (.bool true)) (t 88)),m 90 89,n 0 91 90 (.fld (t 3) 3),p 0 92 90 (.ld (t 91)),n 0 93 90 (.bin .eql (t 92) (i 5)),n 0 94 90 (.mov (t 93)),g 0 95 94 (.mov (t 6)),n 0 96 90 (.pick (t 94) (t 95) (.const (.bool false))),q 97 (.pick (t 90) (.const (.bool true)) (t 96)),m 4 97] .ret))))))))))
theorem e_tumbrelref15_May:EOk 28 98 m_tumbrelref15_May Try.f28:=fun hn h =>
 enter Try.func28 (c:=(Try.f28.body.getD .skip)) rfl (by kernel_rfl) (Nat.le_of_ble_eq_true hn) h
def m_tumbrelref15_Next:MC:=(x [e 2 (.box 31 (t 0)) [],e 3 (.box 44 (t 1)) [],e 4 (.new 31 [.int .i64 0,.int .i64 0,.slice none 0 0,.slice none 0 0]) []] (x [q 13 (.fld (t 2) 0),l 14 13,q 15 (.fld (t 2) 1),l 16 15,q 17 (.bld [.int .i64 0,.int .i64 0,.slice none 0 0,.slice none 0 0] [(0,(1,(t 14))),(1,(1,(t 16)))]),e 5 (.new 31 [.int .i64 0,.int .i64 0,.slice none 0 0,.slice none 0 0]) [],w (.stn (t 5) (t 17) 4) []] (s (x [q 18 (.fld (t 2) 2),l 19 18,q 20 (.len (t 19)),q 21 (.mov (i 0))] (.block 0 (.loop (x [q 22 (.bin .lss (t 21) (t 20))] (s (.cond (t 22) .skip (.exit 0)) (s (.block 1 (x [q 23 (.idx (t 19) (t 21) 2),r 0 24 (.ldn (t 23) 2),e 7 (.new 35 [.int .i64 0,.int .i64 0]) [],w (.stn (t 7) (t 24) 2) []] (x [q 25 (.fld (t 3) 0),l 26 25,q 27 (.un .not (t 26)),m 28 27,n 0 29 28 (.fld (t 3) 3),p 0 30 28 (.ld (t 29)),n 0 31 28 (.bin .neq (t 30) (i 0)),q 32 (.pick (t 28) (.const (.bool true)) (t 31)),m 33 32,n 0 34 33 (.fld (t 7) 0),p 0 35 33 (.ld (t 34)),n 0 36 33 (.fld (t 3) 1),p 0 37 33 (.ld (t 36)),n 0 38 33 (.bin .neq (t 35) (t 37)),q 39 (.pick (t 33) (.const (.bool true)) (t 38))] (.cond (t 39) (.reg [q 40 (.fld (t 5) 2),l 41 40,r 0 42 (.ldn (t 7) 2),e 43 (.bs1 35 2 (t 42)) [],e 44 (.raw (o (.call ⟨(.builtin .append),[t 41,t 43].toArray,[29,29].toArray⟩) 29)) [],q 45 (.fld (t 5) 2),w (.st (t 45) (t 44)) []]) .skip)))) (.reg [q 46 (.bin .add (t 21) (i 1)),m 21 46]))))))) (s (x [q 47 (.fld (t 2) 3),l 48 47,q 49 (.len (t 48)),q 50 (.mov (i 0))] (.block 2 (.loop (x [q 51 (.bin .lss (t 50) (t 49))] (s (.cond (t 51) .skip (.exit 2)) (s (.block 3 (x [q 52 (.idx (t 48) (t 50) 1),l 53 52,m 9 53] (x [q 54 (.fld (t 3) 0),l 55 54,m 56 55,n 0 57 56 (.fld (t 3) 2),p 0 58 56 (.ld (t 57)),n 0 59 56 (.bin .eql (t 58) (i (-1))),q 60 (.pick (t 56) (.const (.bool true)) (t 59)),m 61 60,n 0 62 61 (.fld (t 3) 2),p 0 63 61 (.ld (t 62)),n 0 64 61 (.fld (t 3) 1),p 0 65 61 (.ld (t 64)),n 0 66 61 (.bld [.int .i64 0,.int .i64 0] [(0,(1,(t 63))),(1,(1,(t 65)))]),n 0 67 61 (.mov (t 9)),.e (some 68) (some (61,false)) (.call 10 [t 66,t 67]) [],n 0 69 61 (.un .not (t 68)),q 70 (.pick (t 61) (.const (.bool true)) (t 69))] (.cond (t 70) (.reg [q 71 (.fld (t 5) 3),l 72 71,m 73 9,e 74 (.bs1 3 1 (t 73)) [],e 75 (.raw (o (.call ⟨(.builtin .append),[t 72,t 74].toArray,[26,26].toArray⟩) 26)) [],q 76 (.fld (t 5) 3),w (.st (t 76) (t 75)) []]) .skip)))) (.reg [q 77 (.bin .add (t 50) (i 1)),m 50 77]))))))) (s (x [q 78 (.fld (t 3) 0),l 79 78,m 80 79,g 0 81 80 (.fld (t 3) 3),h 0 82 80 (.ld (t 81)),g 0 83 80 (.bin .eql (t 82) (i 0)),q 84 (.pick (t 80) (t 83) (.const (.bool false)))] (.cond (t 84) (x [q 10 (.mov (.const (.bool false)))] (s (x [q 85 (.fld (t 5) 3),l 86 85,q 87 (.len (t 86)),q 88 (.mov (i 0))] (.block 4 (.loop (x [q 89 (.bin .lss (t 88) (t 87))] (s (.cond (t 89) .skip (.exit 4)) (s (.block 5 (x [q 90 (.idx (t 86) (t 88) 1),l 91 90,m 12 91] (.reg [m 92 10,m 93 92,n 0 94 93 (.mov (t 12)),n 0 95 93 (.fld (t 3) 1),p 0 96 93 (.ld (t 95)),n 0 97 93 (.bin .eql (t 94) (t 96)),q 98 (.pick (t 93) (.const (.bool true)) (t 97)),m 10 98]))) (.reg [q 99 (.bin .add (t 88) (i 1)),m 88 99]))))))) (x [m 100 10,q 101 (.un .not (t 100))] (.cond (t 101) (.reg [q 102 (.fld (t 5) 3),l 103 102,q 104 (.fld (t 3) 1),l 105 104,e 106 (.bs1 3 1 (t 105)) [],e 107 (.raw (o (.call ⟨(.builtin .append),[t 103,t 106].toArray,[26,26].toArray⟩) 26)) [],q 108 (.fld (t 5) 3),w (.st (t 108) (t 107)) []]) .skip)))) .skip)) (s (x [q 109 (.fld (t 3) 0),l 110 109,q 111 (.un .not (t 110)),m 112 111,g 0 113 112 (.fld (t 3) 2),h 0 114 112 (.ld (t 113)),g 0 115 112 (.bin .neq (t 114) (i (-1))),q 116 (.pick (t 112) (t 115) (.const (.bool false)))] (.cond (t 116) (.reg [q 117 (.fld (t 5) 2),l 118 117,q 119 (.fld (t 3) 2),l 120 119,q 121 (.fld (t 3) 1),l 122 121,q 123 (.bld [.int .i64 0,.int .i64 0] [(0,(1,(t 120))),(1,(1,(t 122)))]),e 124 (.bs1 35 2 (t 123)) [],e 125 (.raw (o (.call ⟨(.builtin .append),[t 118,t 124].toArray,[29,29].toArray⟩) 29)) [],q 126 (.fld (t 5) 2),w (.st (t 126) (t 125)) []]) .skip)) (x [r 0 127 (.ldn (t 5) 4),w (.stn (t 4) (t 127) 4) []] .ret)))))))
theorem e_tumbrelref15_Next:EOk 29 128 m_tumbrelref15_Next Try.f29:=fun hn h =>
 enter Try.func29 (c:=(Try.f29.body.getD .skip)) rfl (by kernel_rfl) (Nat.le_of_ble_eq_true hn) h
def m_linear_ByMoment:MC:=(x [e 2 (.box 24 (t 0)) [],e 3 (.box 62 (t 1)) [],q 4 (.mov (.const (.slice none 0 0))),q 5 (.mov (.const (.bool false)))] (x [q 6 (.mov (.const (.slice none 0 0)))] (s (x [l 8 3,q 9 (.len (t 8)),q 10 (.mov (i 0))] (.block 0 (.loop (x [q 11 (.bin .lss (t 10) (t 9))] (s (.cond (t 11) .skip (.exit 0)) (s (.block 1 (x [m 12 10,m 7 12] (.reg [m 13 6,m 14 7,e 15 (.bs1 3 1 (t 14)) [],e 16 (.raw (o (.call ⟨(.builtin .append),[t 13,t 15].toArray,[26,26].toArray⟩) 26)) [],m 6 16]))) (.reg [q 17 (.bin .add (t 10) (i 1)),m 10 17]))))))) (x [m 18 6,q 19 (.mkf (.func 54) [] [t 3]),e 20 (.call 53 [t 18,t 19]) []] (x [m 21 6,r 0 22 (.ldn (t 2) 2),l 23 3,m 24 6,e 25 (.call 26 [t 22,t 23,t 24]) [],m 4 21,m 5 25] .ret)))))
theorem e_linear_ByMoment:EOk 30 26 m_linear_ByMoment Try.f30:=fun hn h =>
 enter Try.func30 (c:=(Try.f30.body.getD .skip)) rfl (by kernel_rfl) (Nat.le_of_ble_eq_true hn) h
def m_tumbrelref16_ByMoment:MC:=(x [q 2 (.mov (.const (.slice none 0 0)))] (x [q 3 (.mov (.const (.slice none 0 0)))] (s (x [m 8 0,q 9 (.len (t 8)),q 10 (.mov (i 0))] (.block 0 (.loop (x [q 11 (.bin .lss (t 10) (t 9))] (s (.cond (t 11) .skip (.exit 0)) (s (.block 1 (x [m 12 10,q 13 (.idx (t 8) (t 10) 8),r 0 14 (.ldn (t 13) 8),e 5 (.new 94 [.int .i64 0,.bool false,.int .i64 0,.int .i64 0,.int .i64 0,.int .i64 0,.int .i64 0,.int .i64 0]) [],m 4 12,w (.stn (t 5) (t 14) 8) []] (x [m 15 3,q 16 (.len (t 15)),m 6 16] (s (.block 2 (.loop (s (x [m 17 6,k 1 18 (.bin .gtr (t 17) (i 0)),k 2 19 (.mov (t 18)),g 3 20 19 (.mov (t 0)),g 4 21 19 (.mov (t 3)),g 5 22 19 (.mov (t 6)),g 6 23 19 (.bin .sub (t 22) (i 1)),g 7 24 19 (.idx (t 21) (t 23) 1),h 8 25 19 (.ld (t 24)),g 9 26 19 (.idx (t 20) (t 25) 8),g 10 27 19 (.fld (t 26) 6),h 11 28 19 (.ld (t 27)),g 12 29 19 (.fld (t 5) 6),h 13 30 19 (.ld (t 29)),g 14 31 19 (.bin .gtr (t 28) (t 30)),k 15 32 (.pick (t 19) (t 31) (.const (.bool false)))] (.cond (t 32) .skip (.exit 2))) (.block 3 (.reg [m 33 6,q 34 (.bin .sub (t 33) (i 1)),m 6 34]))))) (x [e 35 (.bs0 3) [],m 36 3,m 37 6,q 38 (.slc (t 36) none (some (t 37)) 1),e 39 (.raw (o (.call ⟨(.builtin .append),[t 35,t 38].toArray,[26,26].toArray⟩) 26)) [],m 7 39] (x [m 40 7,m 41 4,e 42 (.bs1 3 1 (t 41)) [],e 43 (.raw (o (.call ⟨(.builtin .append),[t 40,t 42].toArray,[26,26].toArray⟩) 26)) [],m 7 43] (.reg [m 44 7,m 45 3,m 46 6,q 47 (.slc (t 45) (some (t 46)) none 1),e 48 (.raw (o (.call ⟨(.builtin .append),[t 44,t 47].toArray,[26,26].toArray⟩) 26)) [],m 3 48]))))))) (.reg [q 49 (.bin .add (t 10) (i 1)),m 10 49]))))))) (x [m 50 3,m 2 50] .ret))))
theorem e_tumbrelref16_ByMoment:EOk 31 51 m_tumbrelref16_ByMoment Try.f31:=fun hn h =>
 enter Try.func31 (c:=(Try.f31.body.getD .skip)) rfl (by kernel_rfl) (Nat.le_of_ble_eq_true hn) h
def m_tumbrelref16_Right:MC:=(x [e 3 (.box 31 (t 0)) [],q 6 (.mov (.const (.bool false)))] (s (x [m 11 2,q 12 (.len (t 11)),m 13 1,q 14 (.len (t 13)),q 15 (.bin .neq (t 12) (t 14))] (.cond (t 15) (x [q 6 (.mov (.const (.bool false)))] .ret) .skip)) (s (x [m 16 2,q 17 (.len (t 16)),q 18 (.mov (i 0))] (.block 0 (.loop (x [q 19 (.bin .lss (t 18) (t 17))] (s (.cond (t 19) .skip (.exit 0)) (s (.block 1 (x [m 20 18,q 21 (.idx (t 16) (t 18) 1),l 22 21,m 7 20,m 8 22] (s (x [m 23 8,q 24 (.bin .lss (t 23) (i 0)),m 25 24,n 0 26 25 (.mov (t 8)),n 0 27 25 (.mov (t 1)),n 0 28 25 (.len (t 27)),n 0 29 25 (.bin .geq (t 26) (t 28)),q 30 (.pick (t 25) (.const (.bool true)) (t 29))] (.cond (t 30) (x [q 6 (.mov (.const (.bool false)))] .ret) .skip)) (s (x [m 31 2,m 32 7,q 33 (.slc (t 31) none (some (t 32)) 1),q 34 (.len (t 33)),q 35 (.mov (i 0))] (.block 2 (.loop (x [q 36 (.bin .lss (t 35) (t 34))] (s (.cond (t 36) .skip (.exit 2)) (s (.block 3 (x [q 37 (.idx (t 33) (t 35) 1),l 38 37,m 10 38] (x [m 39 8,k 1 40 (.mov (t 10)),k 2 41 (.bin .eql (t 39) (t 40)),k 3 42 (.mov (t 41)),n 4 43 42 (.mov (t 1)),n 5 44 42 (.mov (t 8)),n 6 45 42 (.idx (t 43) (t 44) 8),n 7 46 42 (.fld (t 45) 7),p 8 47 42 (.ld (t 46)),n 9 48 42 (.mov (t 1)),n 10 49 42 (.mov (t 10)),n 11 50 42 (.idx (t 48) (t 49) 8),n 12 51 42 (.fld (t 50) 5),p 13 52 42 (.ld (t 51)),n 14 53 42 (.bin .leq (t 47) (t 52)),k 15 54 (.pick (t 42) (.const (.bool true)) (t 53))] (.cond (t 54) (x [q 6 (.mov (.const (.bool false)))] .ret) .skip)))) (.reg [q 55 (.bin .add (t 35) (i 1)),m 35 55]))))))) (s (x [r 0 56 (.ldn (t 3) 4),k 1 57 (.mov (t 1)),k 2 58 (.mov (t 8)),k 3 59 (.idx (t 57) (t 58) 8),r 4 60 (.ldn (t 59) 8),e 61 (.call 48 [t 60]) [0],e 62 (.call 28 [t 56,t 61]) [],k 7 63 (.un .not (t 62))] (.cond (t 63) (x [q 6 (.mov (.const (.bool false)))] .ret) .skip)) (.reg [r 0 64 (.ldn (t 3) 4),k 1 65 (.mov (t 1)),k 2 66 (.mov (t 8)),k 3 67 (.idx (t 65) (t 66) 8),r 4 68 (.ldn (t 67) 8),e 69 (.call 48 [t 68]) [0],e 70 (.call 29 [t 64,t 69]) [],w (.stn (t 3) (t 70) 4) []])))))) (.reg [q 71 (.bin .add (t 18) (i 1)),m 18 71]))))))) (x [q 6 (.mov (.const (.bool true)))] .ret))))
theorem e_tumbrelref16_Right:EOk 32 72 m_tumbrelref16_Right Try.f32:=fun hn h =>
 enter Try.func32 (c:=(Try.f32.body.getD .skip)) rfl (by kernel_rfl) (Nat.le_of_ble_eq_true hn) h
def m_spec_New:MC:=(x [e 1 (.box 24 (t 0)) [],e 2 (.new 28 [.int .i64 0,.int .i64 0,.slice none 0 0,.slice none 0 0]) []] (x [r 0 3 (.ldn (t 1) 2),q 4 (.bld [.int .i64 0,.int .i64 0,.slice none 0 0,.slice none 0 0] [(0,(2,(t 3)))]),w (.stn (t 2) (t 4) 4) []] .ret))
theorem e_spec_New:EOk 33 5 m_spec_New Try.f33:=fun hn h =>
 enter Try.func33 (c:=(Try.f33.body.getD .skip)) rfl (by kernel_rfl) (Nat.le_of_ble_eq_true hn) h
def m_spec_State_Key_c1:MC:=(.reg [l 3 1,k 1 4 (.mov (t 0)),k 2 5 (.cvi .u64 (t 4)),e 6 (.call 35 [i 8,t 5]) [0],e 7 (.raw (o (.call ⟨(.builtin .append),[t 3,t 6].toArray,[80,80].toArray⟩) 80)) [],w (.st (t 1) (t 7)) []])
theorem e_spec_State_Key_c1:EOk 34 8 m_spec_State_Key_c1 Try.f34:=fun hn h =>
 enter Try.func34 (c:=(Try.f34.body.getD .skip)) rfl (by kernel_rfl) (Nat.le_of_ble_eq_true hn) h
def m_num_Put:MC:=(x [q 4 (.mov (.const (.slice none 0 0)))] (s (x [m 7 0,q 8 (.bin .lss (t 7) (i 1)),m 9 8,n 0 10 9 (.mov (t 0)),n 0 11 9 (.bin .gtr (t 10) (i 8)),q 12 (.pick (t 9) (.const (.bool true)) (t 11))] (.cond (t 12) (x [q 4 (.mov (.const (.slice none 0 0)))] .ret) .skip)) (x [m 13 0,e 14 (.raw (o (.makeSlice 80 (t 13) (t 13)) 80)) [],m 5 14] (s (x [m 15 5,q 16 (.len (t 15)),q 17 (.mov (i 0))] (.block 0 (.loop (x [q 18 (.bin .lss (t 17) (t 16))] (s (.cond (t 18) .skip (.exit 0)) (s (.block 1 (x [m 19 17,m 6 19] (.reg [m 20 5,m 21 6,m 22 1,m 23 6,q 24 (.bin .mul (i 8) (t 23)),q 25 (.sh false (t 22) (t 24)),q 26 (.cvi .u8 (t 25)),q 27 (.idx (t 20) (t 21) 1),w (.st (t 27) (t 26)) []]))) (.reg [q 28 (.bin .add (t 17) (i 1)),m 17 28]))))))) (x [m 29 5,m 4 29] .ret)))))
theorem e_num_Put:EOk 35 30 m_num_Put Try.f35:=fun hn h =>
 enter Try.func35 (c:=(Try.f35.body.getD .skip)) rfl (by kernel_rfl) (Nat.le_of_ble_eq_true hn) h
def m_slices_Clone_spec_block_spec_block_:MC:=(x [q 2 (.mov (.const (.slice none 0 0)))] (s (x [m 3 0,r 0 4 (.raw (o (.binOp .eql 25 (t 3) (.const (.slice none 0 0)) 25) 4))] (.cond (t 4) (x [q 2 (.mov (.const (.slice none 0 0)))] .ret) .skip)) (x [e 5 (.bs0 79) [],m 6 0,e 7 (.raw (o (.call ⟨(.builtin .append),[t 5,t 6].toArray,[25,25].toArray⟩) 25)) [],m 2 7] .ret)))
theorem e_slices_Clone_spec_block_spec_block_:EOk 36 8 m_slices_Clone_spec_block_spec_block_ Try.f36:=fun hn h =>
 enter Try.func36 (c:=(Try.f36.body.getD .skip)) rfl (by kernel_rfl) (Nat.le_of_ble_eq_true hn) h
def m_slices_Clone_int_int_:MC:=(x [q 2 (.mov (.const (.slice none 0 0)))] (s (x [m 3 0,r 0 4 (.raw (o (.binOp .eql 26 (t 3) (.const (.slice none 0 0)) 26) 4))] (.cond (t 4) (x [q 2 (.mov (.const (.slice none 0 0)))] .ret) .skip)) (x [e 5 (.bs0 3) [],m 6 0,e 7 (.raw (o (.call ⟨(.builtin .append),[t 5,t 6].toArray,[26,26].toArray⟩) 26)) [],m 2 7] .ret)))
theorem e_slices_Clone_int_int_:EOk 37 8 m_slices_Clone_int_int_ Try.f37:=fun hn h =>
 enter Try.func37 (c:=(Try.f37.body.getD .skip)) rfl (by kernel_rfl) (Nat.le_of_ble_eq_true hn) h
def m_spec_State_find:MC:=(x [e 2 (.box 28 (t 0)) [],q 4 (.mov (i 0)),q 5 (.mov (.const (.bool false)))] (x [q 6 (.fld (t 2) 2),l 7 6,m 8 1,q 9 (.bld [.int .i64 0,.int .i64 0] [(0,(1,(t 8)))]),e 10 (.call 56 [t 7,t 9,.func 57]) [],q 11 (.ext (t 10) 0),q 12 (.ext (t 10) 1),m 4 11,m 5 12] .ret))
theorem e_spec_State_find:EOk 38 13 m_spec_State_find Try.f38:=fun hn h =>
 enter Try.func38 (c:=(Try.f38.body.getD .skip)) rfl (by kernel_rfl) (Nat.le_of_ble_eq_true hn) h
def m_slices_Delete_spec_block_spec_block_:MC:=(x [q 6 (.mov (.const (.slice none 0 0)))] (x [m 8 0,m 9 1,m 10 2,m 11 0,q 12 (.len (t 11)),r 0 13 (.raw (o (.slice 25 (t 8) (some (t 9)) (some (t 10)) (some (t 12))) 25))] (s (x [m 14 1,m 15 2,q 16 (.bin .eql (t 14) (t 15))] (.cond (t 16) (x [m 17 0,m 6 17] .ret) .skip)) (x [m 18 0,q 19 (.len (t 18)),m 7 19] (x [m 20 0,k 1 21 (.mov (t 1)),k 2 22 (.slc (t 20) none (some (t 21)) 2),k 3 23 (.mov (t 0)),k 4 24 (.mov (t 2)),k 5 25 (.slc (t 23) (some (t 24)) none 2),e 26 (.raw (o (.call ⟨(.builtin .append),[t 22,t 25].toArray,[25,25].toArray⟩) 25)) [],k 7 0 (.mov (t 26))] (x [m 27 0,m 28 0,q 29 (.len (t 28)),m 30 7,q 31 (.slc (t 27) (some (t 29)) (some (t 30)) 2),w (.raw (o (.call ⟨(.builtin .clear),[t 31].toArray,[25].toArray⟩) 0)) []] (x [m 32 0,m 6 32] .ret)))))))
theorem e_slices_Delete_spec_block_spec_block_:EOk 39 33 m_slices_Delete_spec_block_spec_block_ Try.f39:=fun hn h =>
 enter Try.func39 (c:=(Try.f39.body.getD .skip)) rfl (by kernel_rfl) (Nat.le_of_ble_eq_true hn) h
def m_slices_BinarySearch_int_int_:MC:=(x [q 4 (.mov (i 0)),q 5 (.mov (.const (.bool false)))] (x [m 10 0,q 11 (.len (t 10)),m 6 11] (x [m 12 6,q 7 (.mov (i 0)),m 8 12] (s (.block 0 (.loop (s (x [m 13 7,m 14 8,q 15 (.bin .lss (t 13) (t 14))] (.cond (t 15) .skip (.exit 0))) (.block 1 (x [m 16 7,m 17 8,q 18 (.bin .add (t 16) (t 17)),q 19 (.cvi .u64 (t 18)),q 20 (.sh false (t 19) (.const (.int .u64 1))),q 21 (.cvi .i64 (t 20)),m 9 21] (x [m 22 0,m 23 9,q 24 (.idx (t 22) (t 23) 1),l 25 24,m 26 1,e 27 (.call 58 [t 25,t 26]) []] (.cond (t 27) (.reg [m 28 9,q 29 (.bin .add (t 28) (i 1)),m 7 29]) (.reg [m 30 9,m 8 30])))))))) (x [m 31 7,m 32 7,m 33 6,q 34 (.bin .lss (t 32) (t 33)),m 35 34,g 0 36 35 (.mov (t 0)),g 0 37 35 (.mov (t 7)),g 0 38 35 (.idx (t 36) (t 37) 1),h 0 39 35 (.ld (t 38)),g 0 40 35 (.mov (t 1)),g 0 41 35 (.bin .eql (t 39) (t 40)),g 0 42 35 (.mov (t 41)),n 0 43 42 (.mov (t 0)),n 0 44 42 (.mov (t 7)),n 0 45 42 (.idx (t 43) (t 44) 1),p 0 46 42 (.ld (t 45)),.e (some 47) (some (42,false)) (.call 59 [t 46]) [],n 0 48 42 (.mov (t 47)),g 0 49 48 (.mov (t 1)),.e (some 50) (some (48,true)) (.call 59 [t 49]) [],n 0 51 42 (.pick (t 48) (t 50) (.const (.bool false))),g 0 52 35 (.pick (t 42) (.const (.bool true)) (t 51)),q 53 (.pick (t 35) (t 52) (.const (.bool false))),m 4 31,m 5 53] .ret)))))
theorem e_slices_BinarySearch_int_int_:EOk 40 54 m_slices_BinarySearch_int_int_ Try.f40:=fun hn h =>
 enter Try.func40 (c:=(Try.f40.body.getD .skip)) rfl (by kernel_rfl) (Nat.le_of_ble_eq_true hn) h
def m_slices_Insert_int_int_:MC:=(x [q 6 (.mov (.const (.slice none 0 0)))] (x [m 10 0,m 11 1,q 12 (.slc (t 10) (some (t 11)) none 1)] (x [m 13 2,q 14 (.len (t 13)),m 7 14] (s (x [m 15 7,q 16 (.bin .eql (t 15) (i 0))] (.cond (t 16) (x [m 17 0,m 6 17] .ret) .skip)) (x [m 18 0,q 19 (.len (t 18)),m 8 19] (s (x [m 20 1,m 21 8,q 22 (.bin .eql (t 20) (t 21))] (.cond (t 22) (x [m 23 0,m 24 2,e 25 (.raw (o (.call ⟨(.builtin .append),[t 23,t 24].toArray,[26,26].toArray⟩) 26)) [],m 6 25] .ret) .skip)) (s (x [m 26 8,m 27 7,q 28 (.bin .add (t 26) (t 27)),m 29 0,r 0 30 (.raw (o (.call ⟨(.builtin .cap),[t 29].toArray,[26].toArray⟩) 3)),q 31 (.bin .gtr (t 28) (t 30))] (.cond (t 31) (x [m 32 0,m 33 1,q 34 (.slc (t 32) none (some (t 33)) 1),m 35 8,m 36 7,q 37 (.bin .add (t 35) (t 36)),m 38 1,q 39 (.bin .sub (t 37) (t 38)),e 40 (.raw (o (.call ⟨(.builtin .append),[t 34,t 39].toArray,[26,3].toArray⟩) 26)) [],m 9 40] (x [m 41 9,m 42 1,q 43 (.slc (t 41) (some (t 42)) none 1),m 44 2,e 45 (.raw (o (.call ⟨(.builtin .copy),[t 43,t 44].toArray,[26,26].toArray⟩) 3)) []] (x [m 46 9,k 1 47 (.mov (t 1)),k 2 48 (.mov (t 7)),k 3 49 (.bin .add (t 47) (t 48)),k 4 50 (.slc (t 46) (some (t 49)) none 1),k 5 51 (.mov (t 0)),k 6 52 (.mov (t 1)),k 7 53 (.slc (t 51) (some (t 52)) none 1),e 54 (.raw (o (.call ⟨(.builtin .copy),[t 50,t 53].toArray,[26,26].toArray⟩) 3)) []] (x [m 55 9,m 6 55] .ret)))) .skip)) (x [m 56 0,m 57 8,m 58 7,q 59 (.bin .add (t 57) (t 58)),q 60 (.slc (t 56) none (some (t 59)) 1),m 0 60] (s (x [m 61 2,m 62 0,m 63 1,m 64 7,q 65 (.bin .add (t 63) (t 64)),q 66 (.slc (t 62) (some (t 65)) none 1),e 67 (.raw (o (.call ⟨(.value (.func 60)),[t 61,t 66].toArray,[26,26].toArray⟩) 4)) [],q 68 (.un .not (t 67))] (.cond (t 68) (x [m 69 0,k 1 70 (.mov (t 1)),k 2 71 (.mov (t 7)),k 3 72 (.bin .add (t 70) (t 71)),k 4 73 (.slc (t 69) (some (t 72)) none 1),k 5 74 (.mov (t 0)),k 6 75 (.mov (t 1)),k 7 76 (.slc (t 74) (some (t 75)) none 1),e 77 (.raw (o (.call ⟨(.builtin .copy),[t 73,t 76].toArray,[26,26].toArray⟩) 3)) []] (x [m 78 0,m 79 1,q 80 (.slc (t 78) (some (t 79)) none 1),m 81 2,e 82 (.raw (o (.call ⟨(.builtin .copy),[t 80,t 81].toArray,[26,26].toArray⟩) 3)) []] (x [m 83 0,m 6 83] .ret))) .skip)) (x [m 84 0,m 85 8,q 86 (.slc (t 84) (some (t 85)) none 1),m 87 2,e 88 (.raw (o (.call ⟨(.builtin .copy),[t 86,t 87].toArray,[26,26].toArray⟩) 3)) []] (x [m 89 0,m 90 1,q 91 (.slc (t 89) (some (t 90)) none 1),m 92 7,e 93 (.call 61 [t 91,t 92]) []] (x [m 94 0,m 6 94] .ret))))))))))))
theorem e_slices_Insert_int_int_:EOk 41 95 m_slices_Insert_int_int_ Try.f41:=fun hn h =>
 enter Try.func41 (c:=(Try.f41.body.getD .skip)) rfl (by kernel_rfl) (Nat.le_of_ble_eq_true hn) h
def m_slices_Insert_spec_block_spec_block_:MC:=(x [q 6 (.mov (.const (.slice none 0 0)))] (x [m 10 0,m 11 1,q 12 (.slc (t 10) (some (t 11)) none 2)] (x [m 13 2,q 14 (.len (t 13)),m 7 14] (s (x [m 15 7,q 16 (.bin .eql (t 15) (i 0))] (.cond (t 16) (x [m 17 0,m 6 17] .ret) .skip)) (x [m 18 0,q 19 (.len (t 18)),m 8 19] (s (x [m 20 1,m 21 8,q 22 (.bin .eql (t 20) (t 21))] (.cond (t 22) (x [m 23 0,m 24 2,e 25 (.raw (o (.call ⟨(.builtin .append),[t 23,t 24].toArray,[25,25].toArray⟩) 25)) [],m 6 25] .ret) .skip)) (s (x [m 26 8,m 27 7,q 28 (.bin .add (t 26) (t 27)),m 29 0,r 0 30 (.raw (o (.call ⟨(.builtin .cap),[t 29].toArray,[25].toArray⟩) 3)),q 31 (.bin .gtr (t 28) (t 30))] (.cond (t 31) (x [m 32 0,m 33 1,q 34 (.slc (t 32) none (some (t 33)) 2),m 35 8,m 36 7,q 37 (.bin .add (t 35) (t 36)),m 38 1,q 39 (.bin .sub (t 37) (t 38)),e 40 (.raw (o (.call ⟨(.builtin .append),[t 34,t 39].toArray,[25,3].toArray⟩) 25)) [],m 9 40] (x [m 41 9,m 42 1,q 43 (.slc (t 41) (some (t 42)) none 2),m 44 2,e 45 (.raw (o (.call ⟨(.builtin .copy),[t 43,t 44].toArray,[25,25].toArray⟩) 3)) []] (x [m 46 9,k 1 47 (.mov (t 1)),k 2 48 (.mov (t 7)),k 3 49 (.bin .add (t 47) (t 48)),k 4 50 (.slc (t 46) (some (t 49)) none 2),k 5 51 (.mov (t 0)),k 6 52 (.mov (t 1)),k 7 53 (.slc (t 51) (some (t 52)) none 2),e 54 (.raw (o (.call ⟨(.builtin .copy),[t 50,t 53].toArray,[25,25].toArray⟩) 3)) []] (x [m 55 9,m 6 55] .ret)))) .skip)) (x [m 56 0,m 57 8,m 58 7,q 59 (.bin .add (t 57) (t 58)),q 60 (.slc (t 56) none (some (t 59)) 2),m 0 60] (s (x [m 61 2,m 62 0,m 63 1,m 64 7,q 65 (.bin .add (t 63) (t 64)),q 66 (.slc (t 62) (some (t 65)) none 2),e 67 (.raw (o (.call ⟨(.value (.func 62)),[t 61,t 66].toArray,[25,25].toArray⟩) 4)) [],q 68 (.un .not (t 67))] (.cond (t 68) (x [m 69 0,k 1 70 (.mov (t 1)),k 2 71 (.mov (t 7)),k 3 72 (.bin .add (t 70) (t 71)),k 4 73 (.slc (t 69) (some (t 72)) none 2),k 5 74 (.mov (t 0)),k 6 75 (.mov (t 1)),k 7 76 (.slc (t 74) (some (t 75)) none 2),e 77 (.raw (o (.call ⟨(.builtin .copy),[t 73,t 76].toArray,[25,25].toArray⟩) 3)) []] (x [m 78 0,m 79 1,q 80 (.slc (t 78) (some (t 79)) none 2),m 81 2,e 82 (.raw (o (.call ⟨(.builtin .copy),[t 80,t 81].toArray,[25,25].toArray⟩) 3)) []] (x [m 83 0,m 6 83] .ret))) .skip)) (x [m 84 0,m 85 8,q 86 (.slc (t 84) (some (t 85)) none 2),m 87 2,e 88 (.raw (o (.call ⟨(.builtin .copy),[t 86,t 87].toArray,[25,25].toArray⟩) 3)) []] (x [m 89 0,m 90 1,q 91 (.slc (t 89) (some (t 90)) none 2),m 92 7,e 93 (.call 63 [t 91,t 92]) []] (x [m 94 0,m 6 94] .ret))))))))))))
theorem e_slices_Insert_spec_block_spec_block_:EOk 42 95 m_slices_Insert_spec_block_spec_block_ Try.f42:=fun hn h =>
 enter Try.func42 (c:=(Try.f42.body.getD .skip)) rfl (by kernel_rfl) (Nat.le_of_ble_eq_true hn) h
def m_slices_DeleteFunc_int_int_:MC:=(x [q 4 (.mov (.const (.slice none 0 0)))] (x [m 8 0,m 9 1,e 10 (.call 64 [t 8,t 9]) [],m 5 10] (s (x [m 11 5,q 12 (.bin .eql (t 11) (i (-1)))] (.cond (t 12) (x [m 13 0,m 4 13] .ret) .skip)) (s (x [m 14 5,q 15 (.bin .add (t 14) (i 1)),m 6 15] (.block 0 (.loop (s (x [m 16 6,m 17 0,q 18 (.len (t 17)),q 19 (.bin .lss (t 16) (t 18))] (.cond (t 19) .skip (.exit 0))) (s (.block 1 (x [m 22 0,m 23 6,q 24 (.idx (t 22) (t 23) 1),l 25 24,m 7 25] (x [m 26 1,m 27 7,e 28 (.callv (t 26) [t 27]) [],q 29 (.un .not (t 28))] (.cond (t 29) (x [m 30 0,m 31 5,m 32 7,q 33 (.idx (t 30) (t 31) 1),w (.st (t 33) (t 32)) []] (.reg [m 34 5,q 35 (.bin .add (t 34) (i 1)),m 5 35])) .skip)))) (.reg [m 20 6,q 21 (.bin .add (t 20) (i 1)),m 6 21])))))) (x [m 36 0,m 37 5,q 38 (.slc (t 36) (some (t 37)) none 1),w (.raw (o (.call ⟨(.builtin .clear),[t 38].toArray,[26].toArray⟩) 0)) []] (x [m 39 0,m 40 5,q 41 (.slc (t 39) none (some (t 40)) 1),m 4 41] .ret))))))
theorem e_slices_DeleteFunc_int_int_:EOk 43 42 m_slices_DeleteFunc_int_int_ Try.f43:=fun hn h =>
 enter Try.func43 (c:=(Try.f43.body.getD .skip)) rfl (by kernel_rfl) (Nat.le_of_ble_eq_true hn) h
def m_spec_State_Next_c1:MC:=(x [q 3 (.mov (.const (.bool false)))] (x [m 4 0,q 5 (.fld (t 1) 2),l 6 5,q 7 (.bin .geq (t 4) (t 6)),m 8 7,g 0 9 8 (.mov (t 0)),g 0 10 8 (.fld (t 1) 2),h 0 11 8 (.ld (t 10)),g 0 12 8 (.bin .sub (t 9) (t 11)),g 0 13 8 (.fld (t 1) 1),h 0 14 8 (.ld (t 13)),g 0 15 8 (.bin .lss (t 12) (t 14)),q 16 (.pick (t 8) (t 15) (.const (.bool false))),m 3 16] .ret))
theorem e_spec_State_Next_c1:EOk 44 17 m_spec_State_Next_c1 Try.f44:=fun hn h =>
 enter Try.func44 (c:=(Try.f44.body.getD .skip)) rfl (by kernel_rfl) (Nat.le_of_ble_eq_true hn) h
def m_spec_State_free:MC:=(x [e 2 (.box 28 (t 0)) [],e 3 (.box 48 (t 1)) [],q 4 (.mov (.const (.bool false)))] (x [r 0 8 (.ldn (t 2) 4),q 9 (.fld (t 3) 1),l 10 9,e 11 (.call 65 [t 8,t 10]) [],m 7 11,q 12 (.ext (t 7) 0),q 13 (.ext (t 7) 1),m 5 12,m 6 13] (s (.block 0 (x [q 15 (.fld (t 3) 2),l 16 15,q 17 (.bin .neq (t 16) (i (-1))),m 14 17] (.cond (t 14) (x [q 4 (.mov (.const (.bool false)))] .ret) (x [m 19 6,m 18 19] (.cond (t 18) (x [q 20 (.fld (t 3) 3),l 21 20,m 22 5,q 23 (.bin .eql (t 21) (t 22)),m 4 23] .ret) (x [q 25 (.fld (t 3) 3),l 26 25,q 27 (.bin .eql (t 26) (i 4)),m 24 27] (.cond (t 24) (x [q 28 (.fld (t 2) 2),r 1 29 (.ld (t 28)),k 2 30 (.len (t 29)),k 3 31 (.bin .gtr (t 30) (i 0)),k 4 32 (.mov (t 31)),g 5 33 32 (.fld (t 2) 2),h 6 34 32 (.ld (t 33)),g 7 35 32 (.idx (t 34) (i 0) 2),g 8 36 32 (.fld (t 35) 0),h 9 37 32 (.ld (t 36)),g 10 38 32 (.fld (t 3) 1),h 11 39 32 (.ld (t 38)),g 12 40 32 (.bin .lss (t 37) (t 39)),k 13 41 (.pick (t 32) (t 40) (.const (.bool false))),k 14 4 (.mov (t 41))] .ret) (x [q 43 (.fld (t 3) 3),l 44 43,q 45 (.bin .eql (t 44) (i 5)),m 42 45] (.cond (t 42) (x [q 46 (.fld (t 2) 3),l 47 46,q 48 (.fld (t 3) 1),l 49 48,e 50 (.call 66 [t 47,t 49]) [],m 4 50] .ret) .skip))))))))) (x [q 51 (.fld (t 3) 3),l 52 51,q 53 (.bin .eql (t 52) (i 3)),m 4 53] .ret))))
theorem e_spec_State_free:EOk 45 54 m_spec_State_free Try.f45:=fun hn h =>
 enter Try.func45 (c:=(Try.f45.body.getD .skip)) rfl (by kernel_rfl) (Nat.le_of_ble_eq_true hn) h
def m_spec_State_malloc:MC:=(x [e 2 (.box 28 (t 0)) [],e 3 (.box 48 (t 1)) [],q 4 (.mov (.const (.bool false)))] (s (x [q 5 (.fld (t 3) 3),l 6 5,q 7 (.bin .neq (t 6) (i 0)),m 8 7,n 0 9 8 (.fld (t 3) 1),p 0 10 8 (.ld (t 9)),n 0 11 8 (.bin .lss (t 10) (i 1)),q 12 (.pick (t 8) (.const (.bool true)) (t 11)),m 13 12,n 0 14 13 (.fld (t 3) 1),p 0 15 13 (.ld (t 14)),n 0 16 13 (.bin .gtr (t 15) (i 4096)),q 17 (.pick (t 13) (.const (.bool true)) (t 16))] (.cond (t 17) (x [q 4 (.mov (.const (.bool false)))] .ret) .skip)) (s (x [q 18 (.fld (t 3) 2),l 19 18,q 20 (.bin .eql (t 19) (i (-1)))] (.cond (t 20) (x [q 4 (.mov (.const (.bool true)))] .ret) .skip)) (x [q 21 (.fld (t 3) 2),l 22 21,q 23 (.bin .geq (t 22) (i 0)),m 24 23,g 0 25 24 (.fld (t 3) 2),h 0 26 24 (.ld (t 25)),g 0 27 24 (.bin .rem (t 26) (i 16)),g 0 28 24 (.bin .eql (t 27) (i 0)),q 29 (.pick (t 24) (t 28) (.const (.bool false))),m 30 29,g 0 31 30 (.fld (t 3) 2),h 0 32 30 (.ld (t 31)),g 0 33 30 (.fld (t 2) 0),g 0 34 30 (.fld (t 33) 0),h 0 35 30 (.ld (t 34)),g 0 36 30 (.fld (t 3) 1),h 0 37 30 (.ld (t 36)),g 0 38 30 (.bin .sub (t 35) (t 37)),g 0 39 30 (.bin .leq (t 32) (t 38)),q 40 (.pick (t 30) (t 39) (.const (.bool false))),m 41 40,h 0 42 41 (.ldn (t 2) 4),g 0 43 41 (.fld (t 3) 2),h 0 44 41 (.ld (t 43)),g 0 45 41 (.fld (t 3) 1),h 0 46 41 (.ld (t 45)),.e (some 47) (some (41,true)) (.call 67 [t 42,t 44,t 46]) [],g 0 48 41 (.un .not (t 47)),q 49 (.pick (t 41) (t 48) (.const (.bool false))),m 4 49] .ret))))
theorem e_spec_State_malloc:EOk 46 50 m_spec_State_malloc Try.f46:=fun hn h =>
 enter Try.func46 (c:=(Try.f46.body.getD .skip)) rfl (by kernel_rfl) (Nat.le_of_ble_eq_true hn) h
def m_linear_search_from:MC:=(x [e 4 (.box 28 (t 1)) [],q 6 (.mov (.const (.bool false)))] (s (x [m 12 0,k 1 13 (.nilc (t 12)),k 2 14 (.fld (t 13) 2),r 3 15 (.ld (t 14)),k 4 16 (.len (t 15)),k 5 17 (.mov (t 0)),k 6 18 (.nilc (t 17)),k 7 19 (.fld (t 18) 0),r 8 20 (.ld (t 19)),k 9 21 (.len (t 20)),k 10 22 (.bin .eql (t 16) (t 21))] (.cond (t 22) (x [q 6 (.mov (.const (.bool true)))] .ret) .skip)) (x [m 23 2,r 0 24 (.ldn (t 4) 4),e 25 (.call 13 [t 24]) [],q 26 (.bld [.int .i64 0,.string ⟨[].toArray⟩] [(0,(1,(t 23))),(1,(1,(t 25)))]),e 7 (.new 118 [.int .i64 0,.string ⟨[].toArray⟩]) [],w (.stn (t 7) (t 26) 2) []] (s (x [m 27 0,k 1 28 (.nilc (t 27)),k 2 29 (.fld (t 28) 1),r 3 30 (.ld (t 29)),r 4 31 (.ldn (t 7) 2),r 5 32 (.raw (o (.lookup 96 (t 30) (t 31) false) 4))] (.cond (t 32) (x [q 6 (.mov (.const (.bool false)))] .ret) .skip)) (x [m 33 0,k 1 34 (.nilc (t 33)),k 2 35 (.fld (t 34) 1),r 3 36 (.ld (t 35)),r 4 37 (.ldn (t 7) 2),w (.raw (o (.mapUpdate 96 (t 36) (t 37) (.const (.bool true))) 0)) []] (s (x [m 38 0,q 39 (.nilc (t 38)),q 40 (.fld (t 39) 0),l 41 40,q 42 (.len (t 41)),q 43 (.mov (i 0))] (.block 0 (.loop (x [q 44 (.bin .lss (t 43) (t 42))] (s (.cond (t 44) .skip (.exit 0)) (s (.block 1 (x [m 45 43,q 46 (.idx (t 41) (t 43) 8),r 0 47 (.ldn (t 46) 8),e 9 (.new 70 [.int .i64 0,.bool false,.int .i64 0,.int .i64 0,.int .i64 0,.int .i64 0,.int .i64 0,.int .i64 0]) [],m 8 45,w (.stn (t 9) (t 47) 8) []] (s (x [m 48 0,m 49 2,m 50 8,e 51 (.call 68 [t 48,t 49,t 50]) [],q 52 (.un .not (t 51))] (.cond (t 52) (.exit 1) .skip)) (s (.regT (.q 0 (some 54) none (.ldn (t 4) 4) true (.q 1 (some 55) none (.ldn (t 9) 8) true (.alt (.e (some 56) none (.call 51 [t 55]) [0] (.alt (.e (some 57) none (.call 15 [t 54,t 56]) [] (.q 4 (some 53) none (.mov (t 57)) false (.q 5 (some 58) none (.ext (t 53) 0) false (.q 6 (some 59) none (.ext (t 53) 1) false (.e (some 10) none (.new 28 [.int .i64 0,.int .i64 0,.slice none 0 0,.slice none 0 0]) [] (.e none none (.stn (t 10) (t 58) 4) [] (.q 9 (some 11) none (.mov (t 59)) false .done))))))) (.e (some 10) none (.new 28 [.int .i64 0,.int .i64 0,.slice none 0 0,.slice none 0 0]) [0] (.e (some 57) none (.call 15 [t 54,t 56]) [] (.q 4 (some 53) none (.mov (t 57)) false (.q 5 (some 58) none (.ext (t 53) 0) false (.q 6 (some 59) none (.ext (t 53) 1) false (.e none none (.stn (t 10) (t 58) 4) [] (.q 9 (some 11) none (.mov (t 59)) false .done))))))))) (.e (some 10) none (.new 28 [.int .i64 0,.int .i64 0,.slice none 0 0,.slice none 0 0]) [1,0] (.e (some 56) none (.call 51 [t 55]) [0] (.e (some 57) none (.call 15 [t 54,t 56]) [] (.q 4 (some 53) none (.mov (t 57)) false (.q 5 (some 58) none (.ext (t 53) 0) false (.q 6 (some 59) none (.ext (t 53) 1) false (.e none none (.stn (t 10) (t 58) 4) [] (.q 9 (some 11) none (.mov (t 59)) false .done)))))))))))) (s (x [m 60 11,q 61 (.bin .neq (t 60) (i 0))] (.cond (t 61) (.exit 1) .skip)) (x [m 62 0,m 63 0,q 64 (.nilc (t 63)),q 65 (.fld (t 64) 2),l 66 65,m 67 8,e 68 (.bs1 3 1 (t 67)) [],e 69 (.raw (o (.call ⟨(.builtin .append),[t 66,t 68].toArray,[26,26].toArray⟩) 26)) [],q 70 (.nilc (t 62)),q 71 (.fld (t 70) 2),w (.st (t 71) (t 69)) []] (s (x [m 72 0,r 1 73 (.ldn (t 10) 4),k 2 74 (.mov (t 2)),k 3 75 (.mov (t 8)),k 4 76 (.sh true (i 1) (t 75)),k 5 77 (.bin .or (t 74) (t 76)),e 78 (.call 47 [t 72,t 73,t 77]) []] (.cond (t 78) (x [q 6 (.mov (.const (.bool true)))] .ret) .skip)) (.reg [m 79 0,k 1 80 (.mov (t 0)),k 2 81 (.nilc (t 80)),k 3 82 (.fld (t 81) 2),r 4 83 (.ld (t 82)),k 5 84 (.mov (t 0)),k 6 85 (.nilc (t 84)),k 7 86 (.fld (t 85) 2),r 8 87 (.ld (t 86)),k 9 88 (.len (t 87)),k 10 89 (.bin .sub (t 88) (i 1)),k 11 90 (.slc (t 83) none (some (t 89)) 1),k 12 91 (.nilc (t 79)),k 13 92 (.fld (t 91) 2),w (.st (t 92) (t 90)) []])))))))) (.reg [q 93 (.bin .add (t 43) (i 1)),m 43 93]))))))) (x [q 6 (.mov (.const (.bool false)))] .ret)))))))
theorem e_linear_search_from:EOk 47 94 m_linear_search_from Try.f47:=fun hn h =>
 enter Try.func47 (c:=(Try.f47.body.getD .skip)) rfl (by kernel_rfl) (Nat.le_of_ble_eq_true hn) h
def m_tumbrelref16_Call:MC:=(x [e 1 (.box 94 (t 0)) [],e 2 (.new 44 [.bool false,.int .i64 0,.int .i64 0,.int .i64 0]) []] (x [q 3 (.fld (t 1) 1),l 4 3,q 5 (.fld (t 1) 2),l 6 5,q 7 (.fld (t 1) 3),l 8 7,q 9 (.fld (t 1) 4),l 10 9,q 11 (.bld [.bool false,.int .i64 0,.int .i64 0,.int .i64 0] [(0,(1,(t 4))),(1,(1,(t 6))),(2,(1,(t 8))),(3,(1,(t 10)))]),w (.stn (t 2) (t 11) 4) []] .ret))
theorem e_tumbrelref16_Call:EOk 48 12 m_tumbrelref16_Call Try.f48:=fun hn h =>
 enter Try.func48 (c:=(Try.f48.body.getD .skip)) rfl (by kernel_rfl) (Nat.le_of_ble_eq_true hn) h
def m_linear_whole:MC:=(x [q 4 (.mov (.const (.bool false)))] (x [m 8 0,e 9 (.call 70 [t 8]) [],e 10 (.call 69 [t 9]) [],m 5 10] (s (x [m 11 5,q 12 (.len (t 11)),q 13 (.mov (i 0))] (.block 0 (.loop (x [q 14 (.bin .lss (t 13) (t 12))] (s (.cond (t 14) .skip (.exit 0)) (s (.block 1 (x [m 15 13,q 16 (.idx (t 11) (t 13) 1),l 17 16,m 6 15,m 7 17] (x [m 18 7,m 19 6,q 20 (.bin .neq (t 18) (t 19))] (.cond (t 20) (x [q 4 (.mov (.const (.bool false)))] .ret) .skip)))) (.reg [q 21 (.bin .add (t 13) (i 1)),m 13 21]))))))) (x [m 22 0,q 23 (.len (t 22)),m 24 1,q 25 (.bin .eql (t 23) (t 24)),m 4 25] .ret))))
theorem e_linear_whole:EOk 49 26 m_linear_whole Try.f49:=fun hn h =>
 enter Try.func49 (c:=(Try.f49.body.getD .skip)) rfl (by kernel_rfl) (Nat.le_of_ble_eq_true hn) h
def m_linear_ahead:MC:=(x [e 2 (.box 70 (t 0)) [],e 3 (.box 70 (t 1)) [],q 4 (.mov (.const (.bool false)))] (x [q 5 (.fld (t 2) 7),l 6 5,q 7 (.fld (t 3) 5),l 8 7,q 9 (.bin .leq (t 6) (t 8)),m 4 9] .ret))
theorem e_linear_ahead:EOk 50 10 m_linear_ahead Try.f50:=fun hn h =>
 enter Try.func50 (c:=(Try.f50.body.getD .skip)) rfl (by kernel_rfl) (Nat.le_of_ble_eq_true hn) h
def m_linear_call:MC:=(x [e 1 (.box 70 (t 0)) [],e 2 (.new 48 [.bool false,.int .i64 0,.int .i64 0,.int .i64 0]) []] (x [q 3 (.fld (t 1) 1),l 4 3,q 5 (.fld (t 1) 2),l 6 5,q 7 (.fld (t 1) 3),l 8 7,q 9 (.fld (t 1) 4),l 10 9,q 11 (.bld [.bool false,.int .i64 0,.int .i64 0,.int .i64 0] [(0,(1,(t 4))),(1,(1,(t 6))),(2,(1,(t 8))),(3,(1,(t 10)))]),w (.stn (t 2) (t 11) 4) []] .ret))
theorem e_linear_call:EOk 51 12 m_linear_call Try.f51:=fun hn h =>
 enter Try.func51 (c:=(Try.f51.body.getD .skip)) rfl (by kernel_rfl) (Nat.le_of_ble_eq_true hn) h
def m_tumbrelref15_malloc:MC:=(x [e 2 (.box 31 (t 0)) [],e 3 (.box 44 (t 1)) [],q 4 (.mov (.const (.bool false)))] (s (x [q 7 (.fld (t 3) 3),l 8 7,q 9 (.bin .neq (t 8) (i 0)),m 10 9,n 0 11 10 (.fld (t 3) 1),p 0 12 10 (.ld (t 11)),n 0 13 10 (.bin .lss (t 12) (i 1)),q 14 (.pick (t 10) (.const (.bool true)) (t 13)),m 15 14,n 0 16 15 (.fld (t 3) 1),p 0 17 15 (.ld (t 16)),n 0 18 15 (.bin .gtr (t 17) (i 4096)),q 19 (.pick (t 15) (.const (.bool true)) (t 18))] (.cond (t 19) (x [q 4 (.mov (.const (.bool false)))] .ret) .skip)) (s (x [q 20 (.fld (t 3) 2),l 21 20,q 22 (.bin .eql (t 21) (i (-1)))] (.cond (t 22) (x [q 4 (.mov (.const (.bool true)))] .ret) .skip)) (s (x [q 23 (.fld (t 3) 2),l 24 23,q 25 (.bin .lss (t 24) (i 0)),m 26 25,n 0 27 26 (.fld (t 3) 2),p 0 28 26 (.ld (t 27)),n 0 29 26 (.bin .rem (t 28) (i 16)),n 0 30 26 (.bin .neq (t 29) (i 0)),q 31 (.pick (t 26) (.const (.bool true)) (t 30)),m 32 31,n 0 33 32 (.fld (t 3) 2),p 0 34 32 (.ld (t 33)),n 0 35 32 (.fld (t 2) 0),p 0 36 32 (.ld (t 35)),n 0 37 32 (.fld (t 3) 1),p 0 38 32 (.ld (t 37)),n 0 39 32 (.bin .sub (t 36) (t 38)),n 0 40 32 (.bin .gtr (t 34) (t 39)),q 41 (.pick (t 32) (.const (.bool true)) (t 40))] (.cond (t 41) (x [q 4 (.mov (.const (.bool false)))] .ret) .skip)) (s (x [q 42 (.fld (t 2) 2),l 43 42,q 44 (.len (t 43)),q 45 (.mov (i 0))] (.block 0 (.loop (x [q 46 (.bin .lss (t 45) (t 44))] (s (.cond (t 46) .skip (.exit 0)) (s (.block 1 (x [q 47 (.idx (t 43) (t 45) 2),r 0 48 (.ldn (t 47) 2),e 6 (.new 35 [.int .i64 0,.int .i64 0]) [],w (.stn (t 6) (t 48) 2) []] (x [r 0 49 (.ldn (t 6) 2),q 50 (.fld (t 3) 2),l 51 50,e 52 (.call 10 [t 49,t 51]) [],m 53 52,n 0 54 53 (.fld (t 3) 2),p 0 55 53 (.ld (t 54)),n 0 56 53 (.fld (t 3) 1),p 0 57 53 (.ld (t 56)),n 0 58 53 (.bld [.int .i64 0,.int .i64 0] [(0,(1,(t 55))),(1,(1,(t 57)))]),n 0 59 53 (.fld (t 6) 0),p 0 60 53 (.ld (t 59)),.e (some 61) (some (53,false)) (.call 10 [t 58,t 60]) [],q 62 (.pick (t 53) (.const (.bool true)) (t 61))] (.cond (t 62) (x [q 4 (.mov (.const (.bool false)))] .ret) .skip)))) (.reg [q 63 (.bin .add (t 45) (i 1)),m 45 63]))))))) (x [q 4 (.mov (.const (.bool true)))] .ret))))))
theorem e_tumbrelref15_malloc:EOk 52 64 m_tumbrelref15_malloc Try.f52:=fun hn h =>
 enter Try.func52 (c:=(Try.f52.body.getD .skip)) rfl (by kernel_rfl) (Nat.le_of_ble_eq_true hn) h
def m_slices_SortStableFunc_int_int_:MC:=(.reg [m 4 0,m 5 0,q 6 (.len (t 5)),m 7 1,e 8 (.call 71 [t 4,t 6,t 7]) []])
theorem e_slices_SortStableFunc_int_int_:EOk 53 9 m_slices_SortStableFunc_int_int_ Try.f53:=fun hn h =>
 enter Try.func53 (c:=(Try.f53.body.getD .skip)) rfl (by kernel_rfl) (Nat.le_of_ble_eq_true hn) h
def m_linear_ByMoment_c1:MC:=(x [q 5 (.mov (i 0))] (x [l 6 2,k 1 7 (.mov (t 0)),k 2 8 (.idx (t 6) (t 7) 8),k 3 9 (.fld (t 8) 6),r 4 10 (.ld (t 9)),r 5 11 (.ld (t 2)),k 6 12 (.mov (t 1)),k 7 13 (.idx (t 11) (t 12) 8),k 8 14 (.fld (t 13) 6),r 9 15 (.ld (t 14)),e 16 (.call 55 [t 10,t 15]) [5,0],k 11 5 (.mov (t 16))] .ret))
theorem e_linear_ByMoment_c1:EOk 54 17 m_linear_ByMoment_c1 Try.f54:=fun hn h =>
 enter Try.func54 (c:=(Try.f54.body.getD .skip)) rfl (by kernel_rfl) (Nat.le_of_ble_eq_true hn) h
def m_cmp_Compare_int_:MC:=(x [q 4 (.mov (i 0))] (x [m 7 0,e 8 (.call 72 [t 7]) [],m 5 8] (x [m 9 1,e 10 (.call 72 [t 9]) [],m 6 10] (s (x [m 11 5] (.cond (t 11) (s (x [m 12 6] (.cond (t 12) (x [q 4 (.mov (i 0))] .ret) .skip)) (x [q 4 (.mov (i (-1)))] .ret)) .skip)) (s (x [m 13 6] (.cond (t 13) (x [q 4 (.mov (i 1))] .ret) .skip)) (s (x [m 14 0,m 15 1,q 16 (.bin .lss (t 14) (t 15))] (.cond (t 16) (x [q 4 (.mov (i (-1)))] .ret) .skip)) (s (x [m 17 0,m 18 1,q 19 (.bin .gtr (t 17) (t 18))] (.cond (t 19) (x [q 4 (.mov (i 1))] .ret) .skip)) (x [q 4 (.mov (i 0))] .ret))))))))
theorem e_cmp_Compare_int_:EOk 55 20 m_cmp_Compare_int_ Try.f55:=fun hn h =>
 enter Try.func55 (c:=(Try.f55.body.getD .skip)) rfl (by kernel_rfl) (Nat.le_of_ble_eq_true hn) h
def m_slices_BinarySearchFunc_spec_block_spec_block_spec_block_:MC:=(x [e 4 (.box 79 (t 1)) [],q 6 (.mov (i 0)),q 7 (.mov (.const (.bool false)))] (x [m 12 0,q 13 (.len (t 12)),m 8 13] (x [m 14 8,q 9 (.mov (i 0)),m 10 14] (s (.block 0 (.loop (s (x [m 15 9,m 16 10,q 17 (.bin .lss (t 15) (t 16))] (.cond (t 17) .skip (.exit 0))) (.block 1 (x [m 18 9,m 19 10,q 20 (.bin .add (t 18) (t 19)),q 21 (.cvi .u64 (t 20)),q 22 (.sh false (t 21) (.const (.int .u64 1))),q 23 (.cvi .i64 (t 22)),m 11 23] (x [m 24 2,k 1 25 (.mov (t 0)),k 2 26 (.mov (t 11)),k 3 27 (.idx (t 25) (t 26) 2),r 4 28 (.ldn (t 27) 2),r 5 29 (.ldn (t 4) 2),e 30 (.callv (t 24) [t 28,t 29]) [],k 7 31 (.bin .lss (t 30) (i 0))] (.cond (t 31) (.reg [m 32 11,q 33 (.bin .add (t 32) (i 1)),m 9 33]) (.reg [m 34 11,m 10 34])))))))) (x [m 35 9,k 1 36 (.mov (t 9)),k 2 37 (.mov (t 8)),k 3 38 (.bin .lss (t 36) (t 37)),k 4 39 (.mov (t 38)),g 5 40 39 (.mov (t 2)),g 6 41 39 (.mov (t 0)),g 7 42 39 (.mov (t 9)),g 8 43 39 (.idx (t 41) (t 42) 2),h 9 44 39 (.ldn (t 43) 2),h 10 45 39 (.ldn (t 4) 2),.e (some 46) (some (39,true)) (.callv (t 40) [t 44,t 45]) [],g 12 47 39 (.bin .eql (t 46) (i 0)),k 13 48 (.pick (t 39) (t 47) (.const (.bool false))),k 14 6 (.mov (t 35)),k 15 7 (.mov (t 48))] .ret)))))
theorem e_slices_BinarySearchFunc_spec_block_spec_block_spec_block_:EOk 56 49 m_slices_BinarySearchFunc_spec_block_spec_block_spec_block_ Try.f56:=fun hn h =>
 enter Try.func56 (c:=(Try.f56.body.getD .skip)) rfl (by kernel_rfl) (Nat.le_of_ble_eq_true hn) h
def m_spec_block_order:MC:=(x [e 2 (.box 79 (t 0)) [],e 3 (.box 79 (t 1)) [],q 4 (.mov (i 0))] (x [q 5 (.fld (t 2) 0),l 6 5,q 7 (.fld (t 3) 0),l 8 7,e 9 (.call 55 [t 6,t 8]) [],m 4 9] .ret))
theorem e_spec_block_order:EOk 57 10 m_spec_block_order Try.f57:=fun hn h =>
 enter Try.func57 (c:=(Try.f57.body.getD .skip)) rfl (by kernel_rfl) (Nat.le_of_ble_eq_true hn) h
def m_cmp_Less_int_:MC:=(x [q 4 (.mov (.const (.bool false)))] (x [m 5 0,e 6 (.call 72 [t 5]) [],m 7 6,g 0 8 7 (.mov (t 1)),.e (some 9) (some (7,true)) (.call 72 [t 8]) [],g 0 10 7 (.un .not (t 9)),q 11 (.pick (t 7) (t 10) (.const (.bool false))),m 12 11,n 0 13 12 (.mov (t 0)),n 0 14 12 (.mov (t 1)),n 0 15 12 (.bin .lss (t 13) (t 14)),q 16 (.pick (t 12) (.const (.bool true)) (t 15)),m 4 16] .ret))
theorem e_cmp_Less_int_:EOk 58 17 m_cmp_Less_int_ Try.f58:=fun hn h =>
 enter Try.func58 (c:=(Try.f58.body.getD .skip)) rfl (by kernel_rfl) (Nat.le_of_ble_eq_true hn) h
def m_slices_isNaN_int_:MC:=(x [q 2 (.mov (.const (.bool false)))] (x [m 3 0,m 4 0,q 5 (.bin .neq (t 3) (t 4)),m 2 5] .ret))
theorem e_slices_isNaN_int_:EOk 59 6 m_slices_isNaN_int_ Try.f59:=fun hn h =>
 enter Try.func59 (c:=(Try.f59.body.getD .skip)) rfl (by kernel_rfl) (Nat.le_of_ble_eq_true hn) h
def m_slices_rotateRight_int_:MC:=(.reg [m 4 0,m 5 0,q 6 (.len (t 5)),m 7 1,q 8 (.bin .sub (t 6) (t 7)),e 9 (.call 73 [t 4,t 8]) []])
def m_slices_rotateRight_spec_block_:MC:=(.reg [m 4 0,m 5 0,q 6 (.len (t 5)),m 7 1,q 8 (.bin .sub (t 6) (t 7)),e 9 (.call 74 [t 4,t 8]) []])
def m_slices_IndexFunc_int_int_:MC:=(x [q 4 (.mov (i 0))] (s (x [m 6 0,q 7 (.len (t 6)),q 8 (.mov (i 0))] (.block 0 (.loop (x [q 9 (.bin .lss (t 8) (t 7))] (s (.cond (t 9) .skip (.exit 0)) (s (.block 1 (x [m 10 8,m 5 10] (x [m 11 1,m 12 0,m 13 5,q 14 (.idx (t 12) (t 13) 1),l 15 14,e 16 (.callv (t 11) [t 15]) []] (.cond (t 16) (x [m 17 5,m 4 17] .ret) .skip)))) (.reg [q 18 (.bin .add (t 8) (i 1)),m 8 18]))))))) (x [q 4 (.mov (i (-1)))] .ret)))
theorem e_slices_IndexFunc_int_int_:EOk 64 19 m_slices_IndexFunc_int_int_ Try.f64:=fun hn h =>
 enter Try.func64 (c:=(Try.f64.body.getD .skip)) rfl (by kernel_rfl) (Nat.le_of_ble_eq_true hn) h
def m_spec_State_must:MC:=(x [e 2 (.box 28 (t 0)) [],q 4 (.mov (i 0)),q 5 (.mov (.const (.bool false)))] (x [r 0 9 (.ldn (t 2) 4),m 10 1,e 11 (.call 38 [t 9,t 10]) [],m 8 11,q 12 (.ext (t 8) 0),q 13 (.ext (t 8) 1),m 6 12,m 7 13] (s (.block 0 (x [m 15 1,q 16 (.bin .lss (t 15) (i 0)),m 17 16,n 0 18 17 (.mov (t 1)),n 0 19 17 (.fld (t 2) 0),n 0 20 17 (.fld (t 19) 1),p 0 21 17 (.ld (t 20)),n 0 22 17 (.bin .geq (t 18) (t 21)),q 23 (.pick (t 17) (.const (.bool true)) (t 22)),m 14 23] (.cond (t 14) (x [q 4 (.mov (i 1)),q 5 (.mov (.const (.bool true)))] .ret) (x [m 25 1,q 26 (.fld (t 2) 0),q 27 (.fld (t 26) 0),l 28 27,q 29 (.bin .geq (t 25) (t 28)),m 24 29] (.cond (t 24) (x [q 4 (.mov (i 2)),q 5 (.mov (.const (.bool true)))] .ret) (x [m 31 7,m 30 31] (.cond (t 30) (x [q 4 (.mov (i 0)),q 5 (.mov (.const (.bool true)))] .ret) .skip))))))) (x [q 4 (.mov (i 3)),q 5 (.mov (.const (.bool false)))] .ret))))
theorem e_spec_State_must:EOk 65 32 m_spec_State_must Try.f65:=fun hn h =>
 enter Try.func65 (c:=(Try.f65.body.getD .skip)) rfl (by kernel_rfl) (Nat.le_of_ble_eq_true hn) h
def m_slices_Contains_int_int_:MC:=(x [q 4 (.mov (.const (.bool false)))] (x [m 5 0,m 6 1,e 7 (.call 75 [t 5,t 6]) [],q 8 (.bin .geq (t 7) (i 0)),m 4 8] .ret))
theorem e_slices_Contains_int_int_:EOk 66 9 m_slices_Contains_int_int_ Try.f66:=fun hn h =>
 enter Try.func66 (c:=(Try.f66.body.getD .skip)) rfl (by kernel_rfl) (Nat.le_of_ble_eq_true hn) h
def m_spec_State_meets:MC:=(x [e 3 (.box 28 (t 0)) [],e 4 (.box 3 (t 1)) [],e 5 (.box 3 (t 2)) [],q 6 (.mov (.const (.bool false)))] (x [q 7 (.fld (t 3) 2),l 8 7,q 9 (.mkf (.func 77) [] [t 4,t 5]),e 10 (.call 76 [t 8,t 9]) [],m 6 10] .ret))
theorem e_spec_State_meets:EOk 67 11 m_spec_State_meets Try.f67:=fun hn h =>
 enter Try.func67 (c:=(Try.f67.body.getD .skip)) rfl (by kernel_rfl) (Nat.le_of_ble_eq_true hn) h
def m_linear_search_ready:MC:=(x [q 6 (.mov (.const (.bool false)))] (s (x [m 9 1,m 10 2,q 11 (.sh false (t 9) (t 10)),q 12 (.bin .and (t 11) (i 1)),q 13 (.bin .eql (t 12) (i 1))] (.cond (t 13) (x [q 6 (.mov (.const (.bool false)))] .ret) .skip)) (s (x [m 14 0,q 15 (.nilc (t 14)),q 16 (.fld (t 15) 0),l 17 16,q 18 (.len (t 17)),q 19 (.mov (i 0))] (.block 0 (.loop (x [q 20 (.bin .lss (t 19) (t 18))] (s (.cond (t 20) .skip (.exit 0)) (s (.block 1 (x [m 21 19,q 22 (.idx (t 17) (t 19) 8),r 0 23 (.ldn (t 22) 8),e 8 (.new 70 [.int .i64 0,.bool false,.int .i64 0,.int .i64 0,.int .i64 0,.int .i64 0,.int .i64 0,.int .i64 0]) [],m 7 21,w (.stn (t 8) (t 23) 8) []] (x [m 24 7,k 1 25 (.mov (t 2)),k 2 26 (.bin .neq (t 24) (t 25)),k 3 27 (.mov (t 26)),g 4 28 27 (.mov (t 1)),g 5 29 27 (.mov (t 7)),g 6 30 27 (.sh false (t 28) (t 29)),g 7 31 27 (.bin .and (t 30) (i 1)),g 8 32 27 (.bin .eql (t 31) (i 0)),k 9 33 (.pick (t 27) (t 32) (.const (.bool false))),k 10 34 (.mov (t 33)),h 11 35 34 (.ldn (t 8) 8),g 12 36 34 (.mov (t 0)),g 13 37 34 (.nilc (t 36)),g 14 38 34 (.fld (t 37) 0),h 15 39 34 (.ld (t 38)),g 16 40 34 (.mov (t 2)),g 17 41 34 (.idx (t 39) (t 40) 8),h 18 42 34 (.ldn (t 41) 8),.e (some 43) (some (34,true)) (.call 50 [t 35,t 42]) [15],k 20 44 (.pick (t 34) (t 43) (.const (.bool false)))] (.cond (t 44) (x [q 6 (.mov (.const (.bool false)))] .ret) .skip)))) (.reg [q 45 (.bin .add (t 19) (i 1)),m 19 45]))))))) (x [q 6 (.mov (.const (.bool true)))] .ret))))
theorem e_linear_search_ready:EOk 68 46 m_linear_search_ready Try.f68:=fun hn h =>
 enter Try.func68 (c:=(Try.f68.body.getD .skip)) rfl (by kernel_rfl) (Nat.le_of_ble_eq_true hn) h
def m_slices_Sorted_int_:MC:=(x [q 2 (.mov (.const (.slice none 0 0)))] (x [m 4 0,e 5 (.call 78 [t 4]) [],m 3 5] (x [m 6 3,e 7 (.call 79 [t 6]) []] (x [m 8 3,m 2 8] .ret))))
theorem e_slices_Sorted_int_:EOk 69 9 m_slices_Sorted_int_ Try.f69:=fun hn h =>
 enter Try.func69 (c:=(Try.f69.body.getD .skip)) rfl (by kernel_rfl) (Nat.le_of_ble_eq_true hn) h
def m_slices_Values_int_int_:MC:=(x [e 1 (.box 26 (t 0)) [],q 2 (.mov (.const .nilFunc))] (x [q 3 (.mkf (.func 80) [] [t 1]),m 2 3] .ret))
theorem e_slices_Values_int_int_:EOk 70 4 m_slices_Values_int_int_ Try.f70:=fun hn h =>
 enter Try.func70 (c:=(Try.f70.body.getD .skip)) rfl (by kernel_rfl) (Nat.le_of_ble_eq_true hn) h
def m_slices_stableCmpFunc_int_:MC:=(x [q 6 (.mov (i 20))] (x [m 10 6,q 7 (.mov (i 0)),m 8 10] (s (.block 0 (.loop (s (x [m 11 8,m 12 1,q 13 (.bin .leq (t 11) (t 12))] (.cond (t 13) .skip (.exit 0))) (.block 1 (x [m 14 0,m 15 7,m 16 8,m 17 2,e 18 (.call 81 [t 14,t 15,t 16,t 17]) []] (x [m 19 8,m 7 19] (.reg [m 20 8,m 21 6,q 22 (.bin .add (t 20) (t 21)),m 8 22]))))))) (x [m 23 0,m 24 7,m 25 1,m 26 2,e 27 (.call 81 [t 23,t 24,t 25,t 26]) []] (.block 2 (.loop (s (x [m 28 6,m 29 1,q 30 (.bin .lss (t 28) (t 29))] (.cond (t 30) .skip (.exit 2))) (.block 3 (x [m 31 6,q 32 (.bin .mul (i 2) (t 31)),q 7 (.mov (i 0)),m 8 32] (s (.block 4 (.loop (s (x [m 33 8,m 34 1,q 35 (.bin .leq (t 33) (t 34))] (.cond (t 35) .skip (.exit 4))) (.block 5 (x [m 36 0,m 37 7,m 38 7,m 39 6,q 40 (.bin .add (t 38) (t 39)),m 41 8,m 42 2,e 43 (.call 82 [t 36,t 37,t 40,t 41,t 42]) []] (x [m 44 8,m 7 44] (.reg [m 45 8,m 46 6,q 47 (.bin .mul (i 2) (t 46)),q 48 (.bin .add (t 45) (t 47)),m 8 48]))))))) (s (x [m 49 7,m 50 6,q 51 (.bin .add (t 49) (t 50)),m 9 51] (x [m 52 9,m 53 1,q 54 (.bin .lss (t 52) (t 53))] (.cond (t 54) (.reg [m 55 0,m 56 7,m 57 9,m 58 1,m 59 2,e 60 (.call 82 [t 55,t 56,t 57,t 58,t 59]) []]) .skip))) (.reg [m 61 6,q 62 (.bin .mul (t 61) (i 2)),m 6 62]))))))))))))
theorem e_slices_stableCmpFunc_int_:EOk 71 63 m_slices_stableCmpFunc_int_ Try.f71:=fun hn h =>
 enter Try.func71 (c:=(Try.f71.body.getD .skip)) rfl (by kernel_rfl) (Nat.le_of_ble_eq_true hn) h
def m_cmp_isNaN_int_:MC:=(x [q 2 (.mov (.const (.bool false)))] (x [m 3 0,m 4 0,q 5 (.bin .neq (t 3) (t 4)),m 2 5] .ret))
theorem e_cmp_isNaN_int_:EOk 72 6 m_cmp_isNaN_int_ Try.f72:=fun hn h =>
 enter Try.func72 (c:=(Try.f72.body.getD .skip)) rfl (by kernel_rfl) (Nat.le_of_ble_eq_true hn) h
def m_slices_rotateLeft_int_:MC:=(x [m 4 0,m 5 1,q 6 (.slc (t 4) none (some (t 5)) 1),e 7 (.call 83 [t 6]) []] (x [m 8 0,m 9 1,q 10 (.slc (t 8) (some (t 9)) none 1),e 11 (.call 83 [t 10]) []] (.reg [m 12 0,e 13 (.call 83 [t 12]) []])))
def m_slices_rotateLeft_spec_block_:MC:=(x [m 4 0,m 5 1,q 6 (.slc (t 4) none (some (t 5)) 2),e 7 (.call 84 [t 6]) []] (x [m 8 0,m 9 1,q 10 (.slc (t 8) (some (t 9)) none 2),e 11 (.call 84 [t 10]) []] (.reg [m 12 0,e 13 (.call 84 [t 12]) []])))
def m_slices_Index_int_int_:MC:=(x [q 4 (.mov (i 0))] (s (x [m 6 0,q 7 (.len (t 6)),q 8 (.mov (i 0))] (.block 0 (.loop (x [q 9 (.bin .lss (t 8) (t 7))] (s (.cond (t 9) .skip (.exit 0)) (s (.block 1 (x [m 10 8,m 5 10] (x [m 11 1,m 12 0,m 13 5,q 14 (.idx (t 12) (t 13) 1),l 15 14,q 16 (.bin .eql (t 11) (t 15))] (.cond (t 16) (x [m 17 5,m 4 17] .ret) .skip)))) (.reg [q 18 (.bin .add (t 8) (i 1)),m 8 18]))))))) (x [q 4 (.mov (i (-1)))] .ret)))
theorem e_slices_Index_int_int_:EOk 75 19 m_slices_Index_int_int_ Try.f75:=fun hn h =>
 enter Try.func75 (c:=(Try.f75.body.getD .skip)) rfl (by kernel_rfl) (Nat.le_of_ble_eq_true hn) h
def m_slices_ContainsFunc_spec_block_spec_block_:MC:=(x [q 4 (.mov (.const (.bool false)))] (x [m 5 0,m 6 1,e 7 (.call 85 [t 5,t 6]) [],q 8 (.bin .geq (t 7) (i 0)),m 4 8] .ret))
theorem e_slices_ContainsFunc_spec_block_spec_block_:EOk 76 9 m_slices_ContainsFunc_spec_block_spec_block_ Try.f76:=fun hn h =>
 enter Try.func76 (c:=(Try.f76.body.getD .skip)) rfl (by kernel_rfl) (Nat.le_of_ble_eq_true hn) h
def m_spec_State_meets_c1:MC:=(x [e 3 (.box 79 (t 0)) [],q 4 (.mov (.const (.bool false)))] (x [q 5 (.fld (t 3) 0),l 6 5,l 7 1,q 8 (.bin .sub (t 6) (t 7)),l 9 2,q 10 (.bin .lss (t 8) (t 9)),m 11 10,h 0 12 11 (.ld (t 1)),g 0 13 11 (.fld (t 3) 0),h 0 14 11 (.ld (t 13)),g 0 15 11 (.bin .sub (t 12) (t 14)),g 0 16 11 (.fld (t 3) 1),h 0 17 11 (.ld (t 16)),g 0 18 11 (.bin .lss (t 15) (t 17)),q 19 (.pick (t 11) (t 18) (.const (.bool false))),m 4 19] .ret))
theorem e_spec_State_meets_c1:EOk 77 20 m_spec_State_meets_c1 Try.f77:=fun hn h =>
 enter Try.func77 (c:=(Try.f77.body.getD .skip)) rfl (by kernel_rfl) (Nat.le_of_ble_eq_true hn) h
def m_slices_Collect_int_:MC:=(x [q 2 (.mov (.const (.slice none 0 0)))] (x [m 3 0,e 4 (.call 86 [.const (.slice none 0 0),t 3]) [],m 2 4] .ret))
theorem e_slices_Collect_int_:EOk 78 5 m_slices_Collect_int_ Try.f78:=fun hn h =>
 enter Try.func78 (c:=(Try.f78.body.getD .skip)) rfl (by kernel_rfl) (Nat.le_of_ble_eq_true hn) h
def m_slices_Sort_int_int_:MC:=(x [m 3 0,q 4 (.len (t 3)),m 2 4] (.reg [m 5 0,m 6 2,m 7 2,q 8 (.cvi .u64 (t 7)),e 9 (.call 88 [t 8]) [],e 10 (.call 87 [t 5,i 0,t 6,t 9]) []]))
def m_slices_Values_int_int__c1:MC:=(x [l 5 1,q 6 (.len (t 5)),q 7 (.mov (i 0))] (.block 0 (.loop (x [q 8 (.bin .lss (t 7) (t 6))] (s (.cond (t 8) .skip (.exit 0)) (s (.block 1 (x [q 9 (.idx (t 5) (t 7) 1),l 10 9,m 4 10] (x [m 11 0,m 12 4,e 13 (.callv (t 11) [t 12]) [],q 14 (.un .not (t 13))] (.cond (t 14) .ret .skip)))) (.reg [q 15 (.bin .add (t 7) (i 1)),m 7 15])))))))
def m_slices_insertionSortCmpFunc_int_:MC:=(x [m 10 1,q 11 (.bin .add (t 10) (i 1)),m 8 11] (.block 0 (.loop (s (x [m 12 8,m 13 2,q 14 (.bin .lss (t 12) (t 13))] (.cond (t 14) .skip (.exit 0))) (s (.block 1 (x [m 17 8,m 9 17] (.block 2 (.loop (s (x [m 18 9,k 1 19 (.mov (t 1)),k 2 20 (.bin .gtr (t 18) (t 19)),k 3 21 (.mov (t 20)),g 4 22 21 (.mov (t 3)),g 5 23 21 (.mov (t 0)),g 6 24 21 (.mov (t 9)),g 7 25 21 (.idx (t 23) (t 24) 1),h 8 26 21 (.ld (t 25)),g 9 27 21 (.mov (t 0)),g 10 28 21 (.mov (t 9)),g 11 29 21 (.bin .sub (t 28) (i 1)),g 12 30 21 (.idx (t 27) (t 29) 1),h 13 31 21 (.ld (t 30)),.e (some 32) (some (21,true)) (.callv (t 22) [t 26,t 31]) [],g 15 33 21 (.bin .lss (t 32) (i 0)),k 16 34 (.pick (t 21) (t 33) (.const (.bool false)))] (.cond (t 34) .skip (.exit 2))) (s (.block 3 (.reg [m 37 0,k 1 38 (.mov (t 9)),k 2 39 (.mov (t 0)),k 3 40 (.mov (t 9)),k 4 41 (.bin .sub (t 40) (i 1)),k 5 42 (.mov (t 0)),k 6 43 (.mov (t 9)),k 7 44 (.bin .sub (t 43) (i 1)),k 8 45 (.idx (t 42) (t 44) 1),r 9 46 (.ld (t 45)),k 10 47 (.mov (t 0)),k 11 48 (.mov (t 9)),k 12 49 (.idx (t 47) (t 48) 1),r 13 50 (.ld (t 49)),k 14 51 (.idx (t 37) (t 38) 1),w (.st (t 51) (t 46)) [],k 16 52 (.idx (t 39) (t 41) 1),w (.st (t 52) (t 50)) []])) (.reg [m 35 9,q 36 (.bin .sub (t 35) (i 1)),m 9 36]))))))) (.reg [m 15 8,q 16 (.bin .add (t 15) (i 1)),m 8 16]))))))
theorem e_slices_insertionSortCmpFunc_int_:EOk 81 53 m_slices_insertionSortCmpFunc_int_ Try.f81:=fun hn h =>
 enter Try.func81 (c:=(Try.f81.body.getD .skip)) rfl (by kernel_rfl) (Nat.le_of_ble_eq_true hn) h
def m_slices_symMergeCmpFunc_int_:MC:=(s (x [m 25 2,m 26 1,q 27 (.bin .sub (t 25) (t 26)),q 28 (.bin .eql (t 27) (i 1))] (.cond (t 28) (x [m 29 2,m 10 29] (x [m 30 3,m 11 30] (s (.block 0 (.loop (s (x [m 31 10,m 32 11,q 33 (.bin .lss (t 31) (t 32))] (.cond (t 33) .skip (.exit 0))) (.block 1 (x [m 34 10,m 35 11,q 36 (.bin .add (t 34) (t 35)),q 37 (.cvi .u64 (t 36)),q 38 (.sh false (t 37) (.const (.int .u64 1))),q 39 (.cvi .i64 (t 38)),m 12 39] (x [m 40 4,k 1 41 (.mov (t 0)),k 2 42 (.mov (t 12)),k 3 43 (.idx (t 41) (t 42) 1),r 4 44 (.ld (t 43)),k 5 45 (.mov (t 0)),k 6 46 (.mov (t 1)),k 7 47 (.idx (t 45) (t 46) 1),r 8 48 (.ld (t 47)),e 49 (.callv (t 40) [t 44,t 48]) [],k 10 50 (.bin .lss (t 49) (i 0))] (.cond (t 50) (.reg [m 51 12,q 52 (.bin .add (t 51) (i 1)),m 10 52]) (.reg [m 53 12,m 11 53])))))))) (s (x [m 54 1,m 13 54] (.block 2 (.loop (s (x [m 55 13,m 56 10,q 57 (.bin .sub (t 56) (i 1)),q 58 (.bin .lss (t 55) (t 57))] (.cond (t 58) .skip (.exit 2))) (s (.block 3 (.reg [m 61 0,k 1 62 (.mov (t 13)),k 2 63 (.mov (t 0)),k 3 64 (.mov (t 13)),k 4 65 (.bin .add (t 64) (i 1)),k 5 66 (.mov (t 0)),k 6 67 (.mov (t 13)),k 7 68 (.bin .add (t 67) (i 1)),k 8 69 (.idx (t 66) (t 68) 1),r 9 70 (.ld (t 69)),k 10 71 (.mov (t 0)),k 11 72 (.mov (t 13)),k 12 73 (.idx (t 71) (t 72) 1),r 13 74 (.ld (t 73)),k 14 75 (.idx (t 61) (t 62) 1),w (.st (t 75) (t 70)) [],k 16 76 (.idx (t 63) (t 65) 1),w (.st (t 76) (t 74)) []])) (.reg [m 59 13,q 60 (.bin .add (t 59) (i 1)),m 13 60])))))) .ret)))) .skip)) (s (x [m 77 3,m 78 2,q 79 (.bin .sub (t 77) (t 78)),q 80 (.bin .eql (t 79) (i 1))] (.cond (t 80) (x [m 81 1,m 14 81] (x [m 82 2,m 15 82] (s (.block 4 (.loop (s (x [m 83 14,m 84 15,q 85 (.bin .lss (t 83) (t 84))] (.cond (t 85) .skip (.exit 4))) (.block 5 (x [m 86 14,m 87 15,q 88 (.bin .add (t 86) (t 87)),q 89 (.cvi .u64 (t 88)),q 90 (.sh false (t 89) (.const (.int .u64 1))),q 91 (.cvi .i64 (t 90)),m 16 91] (x [m 92 4,k 1 93 (.mov (t 0)),k 2 94 (.mov (t 2)),k 3 95 (.idx (t 93) (t 94) 1),r 4 96 (.ld (t 95)),k 5 97 (.mov (t 0)),k 6 98 (.mov (t 16)),k 7 99 (.idx (t 97) (t 98) 1),r 8 100 (.ld (t 99)),e 101 (.callv (t 92) [t 96,t 100]) [],k 10 102 (.bin .lss (t 101) (i 0)),k 11 103 (.un .not (t 102))] (.cond (t 103) (.reg [m 104 16,q 105 (.bin .add (t 104) (i 1)),m 14 105]) (.reg [m 106 16,m 15 106])))))))) (s (x [m 107 2,m 17 107] (.block 6 (.loop (s (x [m 108 17,m 109 14,q 110 (.bin .gtr (t 108) (t 109))] (.cond (t 110) .skip (.exit 6))) (s (.block 7 (.reg [m 113 0,k 1 114 (.mov (t 17)),k 2 115 (.mov (t 0)),k 3 116 (.mov (t 17)),k 4 117 (.bin .sub (t 116) (i 1)),k 5 118 (.mov (t 0)),k 6 119 (.mov (t 17)),k 7 120 (.bin .sub (t 119) (i 1)),k 8 121 (.idx (t 118) (t 120) 1),r 9 122 (.ld (t 121)),k 10 123 (.mov (t 0)),k 11 124 (.mov (t 17)),k 12 125 (.idx (t 123) (t 124) 1),r 13 126 (.ld (t 125)),k 14 127 (.idx (t 113) (t 114) 1),w (.st (t 127) (t 122)) [],k 16 128 (.idx (t 115) (t 117) 1),w (.st (t 128) (t 126)) []])) (.reg [m 111 17,q 112 (.bin .sub (t 111) (i 1)),m 17 112])))))) .ret)))) .skip)) (x [m 129 1,m 130 3,q 131 (.bin .add (t 129) (t 130)),q 132 (.cvi .u64 (t 131)),q 133 (.sh false (t 132) (.const (.int .u64 1))),q 134 (.cvi .i64 (t 133)),m 18 134] (x [m 135 18,m 136 2,q 137 (.bin .add (t 135) (t 136)),m 19 137] (x [q 20 (.mov (i 0)),q 21 (.mov (i 0))] (s (x [m 138 2,m 139 18,q 140 (.bin .gtr (t 138) (t 139))] (.cond (t 140) (x [m 141 19,m 142 3,q 143 (.bin .sub (t 141) (t 142)),m 20 143] (.reg [m 144 18,m 21 144])) (x [m 145 1,m 20 145] (.reg [m 146 2,m 21 146])))) (x [m 147 19,q 148 (.bin .sub (t 147) (i 1)),m 22 148] (s (.block 8 (.loop (s (x [m 149 20,m 150 21,q 151 (.bin .lss (t 149) (t 150))] (.cond (t 151) .skip (.exit 8))) (.block 9 (x [m 152 20,m 153 21,q 154 (.bin .add (t 152) (t 153)),q 155 (.cvi .u64 (t 154)),q 156 (.sh false (t 155) (.const (.int .u64 1))),q 157 (.cvi .i64 (t 156)),m 23 157] (x [m 158 4,k 1 159 (.mov (t 0)),k 2 160 (.mov (t 22)),k 3 161 (.mov (t 23)),k 4 162 (.bin .sub (t 160) (t 161)),k 5 163 (.idx (t 159) (t 162) 1),r 6 164 (.ld (t 163)),k 7 165 (.mov (t 0)),k 8 166 (.mov (t 23)),k 9 167 (.idx (t 165) (t 166) 1),r 10 168 (.ld (t 167)),e 169 (.callv (t 158) [t 164,t 168]) [],k 12 170 (.bin .lss (t 169) (i 0)),k 13 171 (.un .not (t 170))] (.cond (t 171) (.reg [m 172 23,q 173 (.bin .add (t 172) (i 1)),m 20 173]) (.reg [m 174 23,m 21 174])))))))) (x [m 175 19,m 176 20,q 177 (.bin .sub (t 175) (t 176)),m 24 177] (s (x [m 178 20,m 179 2,q 180 (.bin .lss (t 178) (t 179)),m 181 180,g 0 182 181 (.mov (t 2)),g 0 183 181 (.mov (t 24)),g 0 184 181 (.bin .lss (t 182) (t 183)),q 185 (.pick (t 181) (t 184) (.const (.bool false)))] (.cond (t 185) (.reg [m 186 0,m 187 20,m 188 2,m 189 24,m 190 4,e 191 (.call 89 [t 186,t 187,t 188,t 189,t 190]) []]) .skip)) (s (x [m 192 1,m 193 20,q 194 (.bin .lss (t 192) (t 193)),m 195 194,g 0 196 195 (.mov (t 20)),g 0 197 195 (.mov (t 18)),g 0 198 195 (.bin .lss (t 196) (t 197)),q 199 (.pick (t 195) (t 198) (.const (.bool false)))] (.cond (t 199) (.reg [m 200 0,m 201 1,m 202 20,m 203 18,m 204 4,e 205 (.call 82 [t 200,t 201,t 202,t 203,t 204]) []]) .skip)) (x [m 206 18,m 207 24,q 208 (.bin .lss (t 206) (t 207)),m 209 208,g 0 210 209 (.mov (t 24)),g 0 211 209 (.mov (t 3)),g 0 212 209 (.bin .lss (t 210) (t 211)),q 213 (.pick (t 209) (t 212) (.const (.bool false)))] (.cond (t 213) (.reg [m 214 0,m 215 18,m 216 24,m 217 3,m 218 4,e 219 (.call 82 [t 214,t 215,t 216,t 217,t 218]) []]) .skip)))))))))))))
def m_slices_Reverse_int_int_:MC:=(x [m 4 0,q 5 (.len (t 4)),q 6 (.bin .sub (t 5) (i 1)),q 2 (.mov (i 0)),m 3 6] (.block 0 (.loop (s (x [m 7 2,m 8 3,q 9 (.bin .lss (t 7) (t 8))] (.cond (t 9) .skip (.exit 0))) (s (.block 1 (.reg [m 14 0,k 1 15 (.mov (t 2)),k 2 16 (.mov (t 0)),k 3 17 (.mov (t 3)),k 4 18 (.mov (t 0)),k 5 19 (.mov (t 3)),k 6 20 (.idx (t 18) (t 19) 1),r 7 21 (.ld (t 20)),k 8 22 (.mov (t 0)),k 9 23 (.mov (t 2)),k 10 24 (.idx (t 22) (t 23) 1),r 11 25 (.ld (t 24)),k 12 26 (.idx (t 14) (t 15) 1),w (.st (t 26) (t 21)) [],k 14 27 (.idx (t 16) (t 17) 1),w (.st (t 27) (t 25)) []])) (.reg [m 10 2,q 11 (.bin .add (t 10) (i 1)),m 12 3,q 13 (.bin .sub (t 12) (i 1)),m 2 11,m 3 13]))))))
def m_slices_Reverse_spec_block_spec_block_:MC:=(x [m 4 0,q 5 (.len (t 4)),q 6 (.bin .sub (t 5) (i 1)),q 2 (.mov (i 0)),m 3 6] (.block 0 (.loop (s (x [m 7 2,m 8 3,q 9 (.bin .lss (t 7) (t 8))] (.cond (t 9) .skip (.exit 0))) (s (.block 1 (.reg [m 14 0,k 1 15 (.mov (t 2)),k 2 16 (.mov (t 0)),k 3 17 (.mov (t 3)),k 4 18 (.mov (t 0)),k 5 19 (.mov (t 3)),k 6 20 (.idx (t 18) (t 19) 2),r 7 21 (.ldn (t 20) 2),k 8 22 (.mov (t 0)),k 9 23 (.mov (t 2)),k 10 24 (.idx (t 22) (t 23) 2),r 11 25 (.ldn (t 24) 2),k 12 26 (.idx (t 14) (t 15) 2),w (.stn (t 26) (t 21) 2) [],k 14 27 (.idx (t 16) (t 17) 2),w (.stn (t 27) (t 25) 2) []])) (.reg [m 10 2,q 11 (.bin .add (t 10) (i 1)),m 12 3,q 13 (.bin .sub (t 12) (i 1)),m 2 11,m 3 13]))))))
def m_slices_IndexFunc_spec_block_spec_block_:MC:=(x [q 4 (.mov (i 0))] (s (x [m 6 0,q 7 (.len (t 6)),q 8 (.mov (i 0))] (.block 0 (.loop (x [q 9 (.bin .lss (t 8) (t 7))] (s (.cond (t 9) .skip (.exit 0)) (s (.block 1 (x [m 10 8,m 5 10] (x [m 11 1,m 12 0,m 13 5,q 14 (.idx (t 12) (t 13) 2),r 0 15 (.ldn (t 14) 2),e 16 (.callv (t 11) [t 15]) []] (.cond (t 16) (x [m 17 5,m 4 17] .ret) .skip)))) (.reg [q 18 (.bin .add (t 8) (i 1)),m 8 18]))))))) (x [q 4 (.mov (i (-1)))] .ret)))
theorem e_slices_IndexFunc_spec_block_spec_block_:EOk 85 19 m_slices_IndexFunc_spec_block_spec_block_ Try.f85:=fun hn h =>
 enter Try.func85 (c:=(Try.f85.body.getD .skip)) rfl (by kernel_rfl) (Nat.le_of_ble_eq_true hn) h
def m_slices_pdqsortOrdered_int_:MC:=(x [q 8 (.mov (.const (.bool true)))] (x [q 9 (.mov (.const (.bool true)))] (.block 0 (.loop (.block 1 (x [m 19 2,m 20 1,q 21 (.bin .sub (t 19) (t 20)),m 10 21] (s (x [m 22 10,q 23 (.bin .leq (t 22) (i 12))] (.cond (t 23) (x [m 24 0,m 25 1,m 26 2,e 27 (.call 90 [t 24,t 25,t 26]) []] .ret) .skip)) (s (x [m 28 3,q 29 (.bin .eql (t 28) (i 0))] (.cond (t 29) (x [m 30 0,m 31 1,m 32 2,e 33 (.call 91 [t 30,t 31,t 32]) []] .ret) .skip)) (s (x [m 34 8,q 35 (.un .not (t 34))] (.cond (t 35) (x [m 36 0,m 37 1,m 38 2,e 39 (.call 92 [t 36,t 37,t 38]) []] (.reg [m 40 3,q 41 (.bin .sub (t 40) (i 1)),m 3 41])) .skip)) (x [m 43 0,m 44 1,m 45 2,e 46 (.call 93 [t 43,t 44,t 45]) [],m 42 46,q 47 (.ext (t 42) 0),q 48 (.ext (t 42) 1),m 11 47,m 12 48] (s (x [m 49 12,q 50 (.bin .eql (t 49) (i 2))] (.cond (t 50) (x [m 51 0,m 52 1,m 53 2,e 54 (.call 94 [t 51,t 52,t 53]) []] (x [m 55 2,q 56 (.bin .sub (t 55) (i 1)),m 57 11,m 58 1,q 59 (.bin .sub (t 57) (t 58)),q 60 (.bin .sub (t 56) (t 59)),m 11 60] (.reg [q 12 (.mov (i 1))]))) .skip)) (s (x [m 61 8,m 62 61,g 0 63 62 (.mov (t 9)),q 64 (.pick (t 62) (t 63) (.const (.bool false))),m 65 64,g 0 66 65 (.mov (t 12)),g 0 67 65 (.bin .eql (t 66) (i 1)),q 68 (.pick (t 65) (t 67) (.const (.bool false)))] (.cond (t 68) (x [m 69 0,m 70 1,m 71 2,e 72 (.call 95 [t 69,t 70,t 71]) []] (.cond (t 72) .ret .skip)) .skip)) (s (x [m 73 1,k 1 74 (.bin .gtr (t 73) (i 0)),k 2 75 (.mov (t 74)),g 3 76 75 (.mov (t 0)),g 4 77 75 (.mov (t 1)),g 5 78 75 (.bin .sub (t 77) (i 1)),g 6 79 75 (.idx (t 76) (t 78) 1),h 7 80 75 (.ld (t 79)),g 8 81 75 (.mov (t 0)),g 9 82 75 (.mov (t 11)),g 10 83 75 (.idx (t 81) (t 82) 1),h 11 84 75 (.ld (t 83)),.e (some 85) (some (75,true)) (.call 58 [t 80,t 84]) [],g 13 86 75 (.un .not (t 85)),k 14 87 (.pick (t 75) (t 86) (.const (.bool false)))] (.cond (t 87) (x [m 88 0,m 89 1,m 90 2,m 91 11,e 92 (.call 96 [t 88,t 89,t 90,t 91]) [],m 13 92] (x [m 93 13,m 1 93] (.exit 1))) .skip)) (x [m 95 0,m 96 1,m 97 2,m 98 11,e 99 (.call 97 [t 95,t 96,t 97,t 98]) [],m 94 99,q 100 (.ext (t 94) 0),q 101 (.ext (t 94) 1),m 14 100,m 15 101] (x [m 102 15,m 9 102] (x [m 103 14,m 104 1,q 105 (.bin .sub (t 103) (t 104)),m 106 2,m 107 14,q 108 (.bin .sub (t 106) (t 107)),m 16 105,m 17 108] (x [m 109 10,q 110 (.bin .quo (t 109) (i 8)),m 18 110] (x [m 111 16,m 112 17,q 113 (.bin .lss (t 111) (t 112))] (.cond (t 113) (x [m 114 16,m 115 18,q 116 (.bin .geq (t 114) (t 115)),m 8 116] (x [m 117 0,m 118 1,m 119 14,m 120 3,e 121 (.call 87 [t 117,t 118,t 119,t 120]) []] (.reg [m 122 14,q 123 (.bin .add (t 122) (i 1)),m 1 123]))) (x [m 124 17,m 125 18,q 126 (.bin .geq (t 124) (t 125)),m 8 126] (x [m 127 0,m 128 14,q 129 (.bin .add (t 128) (i 1)),m 130 2,m 131 3,e 132 (.call 87 [t 127,t 129,t 130,t 131]) []] (.reg [m 133 14,m 2 133]))))))))))))))))))))))
def m_math_bits_Len:MC:=(x [q 2 (.mov (i 0))] (s (.cond (.const (.bool false)) (x [m 3 0,q 4 (.cvi .u32 (t 3)),e 5 (.call 98 [t 4]) [],m 2 5] .ret) .skip) (x [m 6 0,e 7 (.call 99 [t 6]) [],m 2 7] .ret)))
def m_slices_rotateCmpFunc_int_:MC:=(x [m 12 2,m 13 1,q 14 (.bin .sub (t 12) (t 13)),m 10 14] (x [m 15 3,m 16 2,q 17 (.bin .sub (t 15) (t 16)),m 11 17] (s (.block 0 (.loop (s (x [m 18 10,m 19 11,q 20 (.bin .neq (t 18) (t 19))] (.cond (t 20) .skip (.exit 0))) (.block 1 (x [m 21 10,m 22 11,q 23 (.bin .gtr (t 21) (t 22))] (.cond (t 23) (x [m 24 0,m 25 2,m 26 10,q 27 (.bin .sub (t 25) (t 26)),m 28 2,m 29 11,m 30 4,e 31 (.call 100 [t 24,t 27,t 28,t 29,t 30]) []] (.reg [m 32 10,m 33 11,q 34 (.bin .sub (t 32) (t 33)),m 10 34])) (x [m 35 0,m 36 2,m 37 10,q 38 (.bin .sub (t 36) (t 37)),m 39 2,m 40 11,q 41 (.bin .add (t 39) (t 40)),m 42 10,q 43 (.bin .sub (t 41) (t 42)),m 44 10,m 45 4,e 46 (.call 100 [t 35,t 38,t 43,t 44,t 45]) []] (.reg [m 47 11,m 48 10,q 49 (.bin .sub (t 47) (t 48)),m 11 49])))))))) (.reg [m 50 0,m 51 2,m 52 10,q 53 (.bin .sub (t 51) (t 52)),m 54 2,m 55 10,m 56 4,e 57 (.call 100 [t 50,t 53,t 54,t 55,t 56]) []]))))
def m_slices_insertionSortOrdered_int_:MC:=(x [m 8 1,q 9 (.bin .add (t 8) (i 1)),m 6 9] (.block 0 (.loop (s (x [m 10 6,m 11 2,q 12 (.bin .lss (t 10) (t 11))] (.cond (t 12) .skip (.exit 0))) (s (.block 1 (x [m 15 6,m 7 15] (.block 2 (.loop (s (x [m 16 7,k 1 17 (.mov (t 1)),k 2 18 (.bin .gtr (t 16) (t 17)),k 3 19 (.mov (t 18)),g 4 20 19 (.mov (t 0)),g 5 21 19 (.mov (t 7)),g 6 22 19 (.idx (t 20) (t 21) 1),h 7 23 19 (.ld (t 22)),g 8 24 19 (.mov (t 0)),g 9 25 19 (.mov (t 7)),g 10 26 19 (.bin .sub (t 25) (i 1)),g 11 27 19 (.idx (t 24) (t 26) 1),h 12 28 19 (.ld (t 27)),.e (some 29) (some (19,true)) (.call 58 [t 23,t 28]) [],k 14 30 (.pick (t 19) (t 29) (.const (.bool false)))] (.cond (t 30) .skip (.exit 2))) (s (.block 3 (.reg [m 33 0,k 1 34 (.mov (t 7)),k 2 35 (.mov (t 0)),k 3 36 (.mov (t 7)),k 4 37 (.bin .sub (t 36) (i 1)),k 5 38 (.mov (t 0)),k 6 39 (.mov (t 7)),k 7 40 (.bin .sub (t 39) (i 1)),k 8 41 (.idx (t 38) (t 40) 1),r 9 42 (.ld (t 41)),k 10 43 (.mov (t 0)),k 11 44 (.mov (t 7)),k 12 45 (.idx (t 43) (t 44) 1),r 13 46 (.ld (t 45)),k 14 47 (.idx (t 33) (t 34) 1),w (.st (t 47) (t 42)) [],k 16 48 (.idx (t 35) (t 37) 1),w (.st (t 48) (t 46)) []])) (.reg [m 31 7,q 32 (.bin .sub (t 31) (i 1)),m 7 32]))))))) (.reg [m 13 6,q 14 (.bin .add (t 13) (i 1)),m 6 14]))))))
def m_slices_heapSortOrdered_int_:MC:=(x [m 11 1,m 6 11] (x [q 7 (.mov (i 0))] (x [m 12 2,m 13 1,q 14 (.bin .sub (t 12) (t 13)),m 8 14] (s (x [m 15 8,q 16 (.bin .sub (t 15) (i 1)),q 17 (.bin .quo (t 16) (i 2)),m 9 17] (.block 0 (.loop (s (x [m 18 9,q 19 (.bin .geq (t 18) (i 0))] (.cond (t 19) .skip (.exit 0))) (s (.block 1 (.reg [m 22 0,m 23 9,m 24 8,m 25 6,e 26 (.call 101 [t 22,t 23,t 24,t 25]) []])) (.reg [m 20 9,q 21 (.bin .sub (t 20) (i 1)),m 9 21])))))) (x [m 27 8,q 28 (.bin .sub (t 27) (i 1)),m 10 28] (.block 2 (.loop (s (x [m 29 10,q 30 (.bin .geq (t 29) (i 0))] (.cond (t 30) .skip (.exit 2))) (s (.block 3 (x [m 33 0,k 1 34 (.mov (t 6)),k 2 35 (.mov (t 0)),k 3 36 (.mov (t 6)),k 4 37 (.mov (t 10)),k 5 38 (.bin .add (t 36) (t 37)),k 6 39 (.mov (t 0)),k 7 40 (.mov (t 6)),k 8 41 (.mov (t 10)),k 9 42 (.bin .add (t 40) (t 41)),k 10 43 (.idx (t 39) (t 42) 1),r 11 44 (.ld (t 43)),k 12 45 (.mov (t 0)),k 13 46 (.mov (t 6)),k 14 47 (.idx (t 45) (t 46) 1),r 15 48 (.ld (t 47)),k 16 49 (.idx (t 33) (t 34) 1),w (.st (t 49) (t 44)) [],k 18 50 (.idx (t 35) (t 38) 1),w (.st (t 50) (t 48)) []] (.reg [m 51 0,m 52 7,m 53 10,m 54 6,e 55 (.call 101 [t 51,t 52,t 53,t 54]) []]))) (.reg [m 31 10,q 32 (.bin .sub (t 31) (i 1)),m 10 32]))))))))))
def m_slices_breakPatternsOrdered_int_:MC:=(x [m 11 2,m 12 1,q 13 (.bin .sub (t 11) (t 12)),m 6 13] (x [m 14 6,q 15 (.bin .geq (t 14) (i 8))] (.cond (t 15) (x [m 16 6,q 17 (.cvi .u64 (t 16)),e 7 (.new 145 [.int .u64 0]) [],w (.st (t 7) (t 17)) []] (x [m 18 6,e 19 (.call 102 [t 18]) [],m 8 19] (x [m 20 1,m 21 6,q 22 (.bin .quo (t 21) (i 4)),q 23 (.bin .mul (t 22) (i 2)),q 24 (.bin .add (t 20) (t 23)),q 25 (.bin .sub (t 24) (i 1)),m 9 25] (.block 0 (.loop (s (x [m 26 9,m 27 1,m 28 6,q 29 (.bin .quo (t 28) (i 4)),q 30 (.bin .mul (t 29) (i 2)),q 31 (.bin .add (t 27) (t 30)),q 32 (.bin .add (t 31) (i 1)),q 33 (.bin .leq (t 26) (t 32))] (.cond (t 33) .skip (.exit 0))) (s (.block 1 (x [e 36 (.call 103 [t 7]) [],m 37 8,q 38 (.bin .sub (t 37) (.const (.int .u64 1))),q 39 (.bin .and (t 36) (t 38)),q 40 (.cvi .i64 (t 39)),m 10 40] (s (x [m 41 10,m 42 6,q 43 (.bin .geq (t 41) (t 42))] (.cond (t 43) (.reg [m 44 10,m 45 6,q 46 (.bin .sub (t 44) (t 45)),m 10 46]) .skip)) (.reg [m 47 0,k 1 48 (.mov (t 9)),k 2 49 (.mov (t 0)),k 3 50 (.mov (t 1)),k 4 51 (.mov (t 10)),k 5 52 (.bin .add (t 50) (t 51)),k 6 53 (.mov (t 0)),k 7 54 (.mov (t 1)),k 8 55 (.mov (t 10)),k 9 56 (.bin .add (t 54) (t 55)),k 10 57 (.idx (t 53) (t 56) 1),r 11 58 (.ld (t 57)),k 12 59 (.mov (t 0)),k 13 60 (.mov (t 9)),k 14 61 (.idx (t 59) (t 60) 1),r 15 62 (.ld (t 61)),k 16 63 (.idx (t 47) (t 48) 1),w (.st (t 63) (t 58)) [],k 18 64 (.idx (t 49) (t 52) 1),w (.st (t 64) (t 62)) []])))) (.reg [m 34 9,q 35 (.bin .add (t 34) (i 1)),m 9 35])))))))) .skip)))
def m_slices_choosePivotOrdered_int_:MC:=(x [q 6 (.mov (i 0)),q 7 (.mov (i 0))] (x [m 13 2,m 14 1,q 15 (.bin .sub (t 13) (t 14)),m 8 15] (x [e 9 (.new 3 [.int .i64 0]) []] (x [m 16 1,m 17 8,q 18 (.bin .quo (t 17) (i 4)),q 19 (.bin .mul (t 18) (i 1)),q 20 (.bin .add (t 16) (t 19)),m 10 20] (x [m 21 1,m 22 8,q 23 (.bin .quo (t 22) (i 4)),q 24 (.bin .mul (t 23) (i 2)),q 25 (.bin .add (t 21) (t 24)),m 11 25] (x [m 26 1,m 27 8,q 28 (.bin .quo (t 27) (i 4)),q 29 (.bin .mul (t 28) (i 3)),q 30 (.bin .add (t 26) (t 29)),m 12 30] (s (x [m 31 8,q 32 (.bin .geq (t 31) (i 8))] (.cond (t 32) (s (x [m 33 8,q 34 (.bin .geq (t 33) (i 50))] (.cond (t 34) (x [m 35 0,m 36 10,e 37 (.call 104 [t 35,t 36,t 9]) [],m 10 37] (x [m 38 0,m 39 11,e 40 (.call 104 [t 38,t 39,t 9]) [],m 11 40] (.reg [m 41 0,m 42 12,e 43 (.call 104 [t 41,t 42,t 9]) [],m 12 43]))) .skip)) (.reg [m 44 0,m 45 10,m 46 11,m 47 12,e 48 (.call 105 [t 44,t 45,t 46,t 47,t 9]) [],m 11 48])) .skip)) (x [l 49 9] (.block 0 (x [q 52 (.bin .eql (t 49) (i 0)),m 51 52] (.cond (t 51) (x [m 53 11,m 6 53,q 7 (.mov (i 1))] .ret) (x [q 55 (.bin .eql (t 49) (i 12)),m 54 55] (.cond (t 54) (x [m 56 11,m 6 56,q 7 (.mov (i 2))] .ret) (x [m 50 11,m 6 50,q 7 (.mov (i 0))] .ret))))))))))))))
def m_slices_reverseRangeOrdered_int_:MC:=(x [m 8 1,m 6 8] (x [m 9 2,q 10 (.bin .sub (t 9) (i 1)),m 7 10] (.block 0 (.loop (s (x [m 11 6,m 12 7,q 13 (.bin .lss (t 11) (t 12))] (.cond (t 13) .skip (.exit 0))) (.block 1 (x [m 14 0,k 1 15 (.mov (t 6)),k 2 16 (.mov (t 0)),k 3 17 (.mov (t 7)),k 4 18 (.mov (t 0)),k 5 19 (.mov (t 7)),k 6 20 (.idx (t 18) (t 19) 1),r 7 21 (.ld (t 20)),k 8 22 (.mov (t 0)),k 9 23 (.mov (t 6)),k 10 24 (.idx (t 22) (t 23) 1),r 11 25 (.ld (t 24)),k 12 26 (.idx (t 14) (t 15) 1),w (.st (t 26) (t 21)) [],k 14 27 (.idx (t 16) (t 17) 1),w (.st (t 27) (t 25)) []] (x [m 28 6,q 29 (.bin .add (t 28) (i 1)),m 6 29] (.reg [m 30 7,q 31 (.bin .sub (t 30) (i 1)),m 7 31])))))))))
def m_slices_partialInsertionSortOrdered_int_:MC:=(x [q 6 (.mov (.const (.bool false)))] (x [m 11 1,q 12 (.bin .add (t 11) (i 1)),m 7 12] (s (x [q 8 (.mov (i 0))] (.block 0 (.loop (s (x [m 13 8,q 14 (.bin .lss (t 13) (i 5))] (.cond (t 14) .skip (.exit 0))) (s (.block 1 (s (.block 2 (.loop (s (x [m 17 7,k 1 18 (.mov (t 2)),k 2 19 (.bin .lss (t 17) (t 18)),k 3 20 (.mov (t 19)),g 4 21 20 (.mov (t 0)),g 5 22 20 (.mov (t 7)),g 6 23 20 (.idx (t 21) (t 22) 1),h 7 24 20 (.ld (t 23)),g 8 25 20 (.mov (t 0)),g 9 26 20 (.mov (t 7)),g 10 27 20 (.bin .sub (t 26) (i 1)),g 11 28 20 (.idx (t 25) (t 27) 1),h 12 29 20 (.ld (t 28)),.e (some 30) (some (20,true)) (.call 58 [t 24,t 29]) [],g 14 31 20 (.un .not (t 30)),k 15 32 (.pick (t 20) (t 31) (.const (.bool false)))] (.cond (t 32) .skip (.exit 2))) (.block 3 (.reg [m 33 7,q 34 (.bin .add (t 33) (i 1)),m 7 34]))))) (s (x [m 35 7,m 36 2,q 37 (.bin .eql (t 35) (t 36))] (.cond (t 37) (x [q 6 (.mov (.const (.bool true)))] .ret) .skip)) (s (x [m 38 2,m 39 1,q 40 (.bin .sub (t 38) (t 39)),q 41 (.bin .lss (t 40) (i 50))] (.cond (t 41) (x [q 6 (.mov (.const (.bool false)))] .ret) .skip)) (x [m 42 0,k 1 43 (.mov (t 7)),k 2 44 (.mov (t 0)),k 3 45 (.mov (t 7)),k 4 46 (.bin .sub (t 45) (i 1)),k 5 47 (.mov (t 0)),k 6 48 (.mov (t 7)),k 7 49 (.bin .sub (t 48) (i 1)),k 8 50 (.idx (t 47) (t 49) 1),r 9 51 (.ld (t 50)),k 10 52 (.mov (t 0)),k 11 53 (.mov (t 7)),k 12 54 (.idx (t 52) (t 53) 1),r 13 55 (.ld (t 54)),k 14 56 (.idx (t 42) (t 43) 1),w (.st (t 56) (t 51)) [],k 16 57 (.idx (t 44) (t 46) 1),w (.st (t 57) (t 55)) []] (s (x [m 58 7,m 59 1,q 60 (.bin .sub (t 58) (t 59)),q 61 (.bin .geq (t 60) (i 2))] (.cond (t 61) (x [m 62 7,q 63 (.bin .sub (t 62) (i 1)),m 9 63] (.block 4 (.loop (s (x [m 64 9,q 65 (.bin .geq (t 64) (i 1))] (.cond (t 65) .skip (.exit 4))) (s (.block 5 (s (x [m 68 0,k 1 69 (.mov (t 9)),k 2 70 (.idx (t 68) (t 69) 1),r 3 71 (.ld (t 70)),k 4 72 (.mov (t 0)),k 5 73 (.mov (t 9)),k 6 74 (.bin .sub (t 73) (i 1)),k 7 75 (.idx (t 72) (t 74) 1),r 8 76 (.ld (t 75)),e 77 (.call 58 [t 71,t 76]) [],k 10 78 (.un .not (t 77))] (.cond (t 78) (.exit 4) .skip)) (.reg [m 79 0,k 1 80 (.mov (t 9)),k 2 81 (.mov (t 0)),k 3 82 (.mov (t 9)),k 4 83 (.bin .sub (t 82) (i 1)),k 5 84 (.mov (t 0)),k 6 85 (.mov (t 9)),k 7 86 (.bin .sub (t 85) (i 1)),k 8 87 (.idx (t 84) (t 86) 1),r 9 88 (.ld (t 87)),k 10 89 (.mov (t 0)),k 11 90 (.mov (t 9)),k 12 91 (.idx (t 89) (t 90) 1),r 13 92 (.ld (t 91)),k 14 93 (.idx (t 79) (t 80) 1),w (.st (t 93) (t 88)) [],k 16 94 (.idx (t 81) (t 83) 1),w (.st (t 94) (t 92)) []]))) (.reg [m 66 9,q 67 (.bin .sub (t 66) (i 1)),m 9 67])))))) .skip)) (x [m 95 2,m 96 7,q 97 (.bin .sub (t 95) (t 96)),q 98 (.bin .geq (t 97) (i 2))] (.cond (t 98) (x [m 99 7,q 100 (.bin .add (t 99) (i 1)),m 10 100] (.block 6 (.loop (s (x [m 101 10,m 102 2,q 103 (.bin .lss (t 101) (t 102))] (.cond (t 103) .skip (.exit 6))) (s (.block 7 (s (x [m 106 0,k 1 107 (.mov (t 10)),k 2 108 (.idx (t 106) (t 107) 1),r 3 109 (.ld (t 108)),k 4 110 (.mov (t 0)),k 5 111 (.mov (t 10)),k 6 112 (.bin .sub (t 111) (i 1)),k 7 113 (.idx (t 110) (t 112) 1),r 8 114 (.ld (t 113)),e 115 (.call 58 [t 109,t 114]) [],k 10 116 (.un .not (t 115))] (.cond (t 116) (.exit 6) .skip)) (.reg [m 117 0,k 1 118 (.mov (t 10)),k 2 119 (.mov (t 0)),k 3 120 (.mov (t 10)),k 4 121 (.bin .sub (t 120) (i 1)),k 5 122 (.mov (t 0)),k 6 123 (.mov (t 10)),k 7 124 (.bin .sub (t 123) (i 1)),k 8 125 (.idx (t 122) (t 124) 1),r 9 126 (.ld (t 125)),k 10 127 (.mov (t 0)),k 11 128 (.mov (t 10)),k 12 129 (.idx (t 127) (t 128) 1),r 13 130 (.ld (t 129)),k 14 131 (.idx (t 117) (t 118) 1),w (.st (t 131) (t 126)) [],k 16 132 (.idx (t 119) (t 121) 1),w (.st (t 132) (t 130)) []]))) (.reg [m 104 10,q 105 (.bin .add (t 104) (i 1)),m 10 105])))))) .skip)))))))) (.reg [m 15 8,q 16 (.bin .add (t 15) (i 1)),m 8 16])))))) (x [q 6 (.mov (.const (.bool false)))] .ret))))
def m_slices_partitionEqualOrdered_int_:MC:=(x [q 8 (.mov (i 0))] (x [m 11 0,k 1 12 (.mov (t 1)),k 2 13 (.mov (t 0)),k 3 14 (.mov (t 3)),k 4 15 (.mov (t 0)),k 5 16 (.mov (t 3)),k 6 17 (.idx (t 15) (t 16) 1),r 7 18 (.ld (t 17)),k 8 19 (.mov (t 0)),k 9 20 (.mov (t 1)),k 10 21 (.idx (t 19) (t 20) 1),r 11 22 (.ld (t 21)),k 12 23 (.idx (t 11) (t 12) 1),w (.st (t 23) (t 18)) [],k 14 24 (.idx (t 13) (t 14) 1),w (.st (t 24) (t 22)) []] (x [m 25 1,q 26 (.bin .add (t 25) (i 1)),m 27 2,q 28 (.bin .sub (t 27) (i 1)),m 9 26,m 10 28] (s (.block 0 (.loop (.block 1 (s (.block 2 (.loop (s (x [m 29 9,k 1 30 (.mov (t 10)),k 2 31 (.bin .leq (t 29) (t 30)),k 3 32 (.mov (t 31)),g 4 33 32 (.mov (t 0)),g 5 34 32 (.mov (t 1)),g 6 35 32 (.idx (t 33) (t 34) 1),h 7 36 32 (.ld (t 35)),g 8 37 32 (.mov (t 0)),g 9 38 32 (.mov (t 9)),g 10 39 32 (.idx (t 37) (t 38) 1),h 11 40 32 (.ld (t 39)),.e (some 41) (some (32,true)) (.call 58 [t 36,t 40]) [],g 13 42 32 (.un .not (t 41)),k 14 43 (.pick (t 32) (t 42) (.const (.bool false)))] (.cond (t 43) .skip (.exit 2))) (.block 3 (.reg [m 44 9,q 45 (.bin .add (t 44) (i 1)),m 9 45]))))) (s (.block 4 (.loop (s (x [m 46 9,k 1 47 (.mov (t 10)),k 2 48 (.bin .leq (t 46) (t 47)),k 3 49 (.mov (t 48)),g 4 50 49 (.mov (t 0)),g 5 51 49 (.mov (t 1)),g 6 52 49 (.idx (t 50) (t 51) 1),h 7 53 49 (.ld (t 52)),g 8 54 49 (.mov (t 0)),g 9 55 49 (.mov (t 10)),g 10 56 49 (.idx (t 54) (t 55) 1),h 11 57 49 (.ld (t 56)),.e (some 58) (some (49,true)) (.call 58 [t 53,t 57]) [],k 13 59 (.pick (t 49) (t 58) (.const (.bool false)))] (.cond (t 59) .skip (.exit 4))) (.block 5 (.reg [m 60 10,q 61 (.bin .sub (t 60) (i 1)),m 10 61]))))) (s (x [m 62 9,m 63 10,q 64 (.bin .gtr (t 62) (t 63))] (.cond (t 64) (.exit 0) .skip)) (x [m 65 0,k 1 66 (.mov (t 9)),k 2 67 (.mov (t 0)),k 3 68 (.mov (t 10)),k 4 69 (.mov (t 0)),k 5 70 (.mov (t 10)),k 6 71 (.idx (t 69) (t 70) 1),r 7 72 (.ld (t 71)),k 8 73 (.mov (t 0)),k 9 74 (.mov (t 9)),k 10 75 (.idx (t 73) (t 74) 1),r 11 76 (.ld (t 75)),k 12 77 (.idx (t 65) (t 66) 1),w (.st (t 77) (t 72)) [],k 14 78 (.idx (t 67) (t 68) 1),w (.st (t 78) (t 76)) []] (x [m 79 9,q 80 (.bin .add (t 79) (i 1)),m 9 80] (.reg [m 81 10,q 82 (.bin .sub (t 81) (i 1)),m 10 82]))))))))) (x [m 83 9,m 8 83] .ret)))))
def m_slices_partitionOrdered_int_:MC:=(x [q 8 (.mov (i 0)),q 9 (.mov (.const (.bool false)))] (x [m 12 0,k 1 13 (.mov (t 1)),k 2 14 (.mov (t 0)),k 3 15 (.mov (t 3)),k 4 16 (.mov (t 0)),k 5 17 (.mov (t 3)),k 6 18 (.idx (t 16) (t 17) 1),r 7 19 (.ld (t 18)),k 8 20 (.mov (t 0)),k 9 21 (.mov (t 1)),k 10 22 (.idx (t 20) (t 21) 1),r 11 23 (.ld (t 22)),k 12 24 (.idx (t 12) (t 13) 1),w (.st (t 24) (t 19)) [],k 14 25 (.idx (t 14) (t 15) 1),w (.st (t 25) (t 23)) []] (x [m 26 1,q 27 (.bin .add (t 26) (i 1)),m 28 2,q 29 (.bin .sub (t 28) (i 1)),m 10 27,m 11 29] (s (.block 0 (.loop (s (x [m 30 10,k 1 31 (.mov (t 11)),k 2 32 (.bin .leq (t 30) (t 31)),k 3 33 (.mov (t 32)),g 4 34 33 (.mov (t 0)),g 5 35 33 (.mov (t 10)),g 6 36 33 (.idx (t 34) (t 35) 1),h 7 37 33 (.ld (t 36)),g 8 38 33 (.mov (t 0)),g 9 39 33 (.mov (t 1)),g 10 40 33 (.idx (t 38) (t 39) 1),h 11 41 33 (.ld (t 40)),.e (some 42) (some (33,true)) (.call 58 [t 37,t 41]) [],k 13 43 (.pick (t 33) (t 42) (.const (.bool false)))] (.cond (t 43) .skip (.exit 0))) (.block 1 (.reg [m 44 10,q 45 (.bin .add (t 44) (i 1)),m 10 45]))))) (s (.block 2 (.loop (s (x [m 46 10,k 1 47 (.mov (t 11)),k 2 48 (.bin .leq (t 46) (t 47)),k 3 49 (.mov (t 48)),g 4 50 49 (.mov (t 0)),g 5 51 49 (.mov (t 11)),g 6 52 49 (.idx (t 50) (t 51) 1),h 7 53 49 (.ld (t 52)),g 8 54 49 (.mov (t 0)),g 9 55 49 (.mov (t 1)),g 10 56 49 (.idx (t 54) (t 55) 1),h 11 57 49 (.ld (t 56)),.e (some 58) (some (49,true)) (.call 58 [t 53,t 57]) [],g 13 59 49 (.un .not (t 58)),k 14 60 (.pick (t 49) (t 59) (.const (.bool false)))] (.cond (t 60) .skip (.exit 2))) (.block 3 (.reg [m 61 11,q 62 (.bin .sub (t 61) (i 1)),m 11 62]))))) (s (x [m 63 10,m 64 11,q 65 (.bin .gtr (t 63) (t 64))] (.cond (t 65) (x [m 66 0,k 1 67 (.mov (t 11)),k 2 68 (.mov (t 0)),k 3 69 (.mov (t 1)),k 4 70 (.mov (t 0)),k 5 71 (.mov (t 1)),k 6 72 (.idx (t 70) (t 71) 1),r 7 73 (.ld (t 72)),k 8 74 (.mov (t 0)),k 9 75 (.mov (t 11)),k 10 76 (.idx (t 74) (t 75) 1),r 11 77 (.ld (t 76)),k 12 78 (.idx (t 66) (t 67) 1),w (.st (t 78) (t 73)) [],k 14 79 (.idx (t 68) (t 69) 1),w (.st (t 79) (t 77)) []] (x [m 80 11,m 8 80,q 9 (.mov (.const (.bool true)))] .ret)) .skip)) (x [m 81 0,k 1 82 (.mov (t 10)),k 2 83 (.mov (t 0)),k 3 84 (.mov (t 11)),k 4 85 (.mov (t 0)),k 5 86 (.mov (t 11)),k 6 87 (.idx (t 85) (t 86) 1),r 7 88 (.ld (t 87)),k 8 89 (.mov (t 0)),k 9 90 (.mov (t 10)),k 10 91 (.idx (t 89) (t 90) 1),r 11 92 (.ld (t 91)),k 12 93 (.idx (t 81) (t 82) 1),w (.st (t 93) (t 88)) [],k 14 94 (.idx (t 83) (t 84) 1),w (.st (t 94) (t 92)) []] (x [m 95 10,q 96 (.bin .add (t 95) (i 1)),m 10 96] (x [m 97 11,q 98 (.bin .sub (t 97) (i 1)),m 11 98] (s (.block 4 (.loop (.block 5 (s (.block 6 (.loop (s (x [m 99 10,k 1 100 (.mov (t 11)),k 2 101 (.bin .leq (t 99) (t 100)),k 3 102 (.mov (t 101)),g 4 103 102 (.mov (t 0)),g 5 104 102 (.mov (t 10)),g 6 105 102 (.idx (t 103) (t 104) 1),h 7 106 102 (.ld (t 105)),g 8 107 102 (.mov (t 0)),g 9 108 102 (.mov (t 1)),g 10 109 102 (.idx (t 107) (t 108) 1),h 11 110 102 (.ld (t 109)),.e (some 111) (some (102,true)) (.call 58 [t 106,t 110]) [],k 13 112 (.pick (t 102) (t 111) (.const (.bool false)))] (.cond (t 112) .skip (.exit 6))) (.block 7 (.reg [m 113 10,q 114 (.bin .add (t 113) (i 1)),m 10 114]))))) (s (.block 8 (.loop (s (x [m 115 10,k 1 116 (.mov (t 11)),k 2 117 (.bin .leq (t 115) (t 116)),k 3 118 (.mov (t 117)),g 4 119 118 (.mov (t 0)),g 5 120 118 (.mov (t 11)),g 6 121 118 (.idx (t 119) (t 120) 1),h 7 122 118 (.ld (t 121)),g 8 123 118 (.mov (t 0)),g 9 124 118 (.mov (t 1)),g 10 125 118 (.idx (t 123) (t 124) 1),h 11 126 118 (.ld (t 125)),.e (some 127) (some (118,true)) (.call 58 [t 122,t 126]) [],g 13 128 118 (.un .not (t 127)),k 14 129 (.pick (t 118) (t 128) (.const (.bool false)))] (.cond (t 129) .skip (.exit 8))) (.block 9 (.reg [m 130 11,q 131 (.bin .sub (t 130) (i 1)),m 11 131]))))) (s (x [m 132 10,m 133 11,q 134 (.bin .gtr (t 132) (t 133))] (.cond (t 134) (.exit 4) .skip)) (x [m 135 0,k 1 136 (.mov (t 10)),k 2 137 (.mov (t 0)),k 3 138 (.mov (t 11)),k 4 139 (.mov (t 0)),k 5 140 (.mov (t 11)),k 6 141 (.idx (t 139) (t 140) 1),r 7 142 (.ld (t 141)),k 8 143 (.mov (t 0)),k 9 144 (.mov (t 10)),k 10 145 (.idx (t 143) (t 144) 1),r 11 146 (.ld (t 145)),k 12 147 (.idx (t 135) (t 136) 1),w (.st (t 147) (t 142)) [],k 14 148 (.idx (t 137) (t 138) 1),w (.st (t 148) (t 146)) []] (x [m 149 10,q 150 (.bin .add (t 149) (i 1)),m 10 150] (.reg [m 151 11,q 152 (.bin .sub (t 151) (i 1)),m 11 152]))))))))) (x [m 153 0,k 1 154 (.mov (t 11)),k 2 155 (.mov (t 0)),k 3 156 (.mov (t 1)),k 4 157 (.mov (t 0)),k 5 158 (.mov (t 1)),k 6 159 (.idx (t 157) (t 158) 1),r 7 160 (.ld (t 159)),k 8 161 (.mov (t 0)),k 9 162 (.mov (t 11)),k 10 163 (.idx (t 161) (t 162) 1),r 11 164 (.ld (t 163)),k 12 165 (.idx (t 153) (t 154) 1),w (.st (t 165) (t 160)) [],k 14 166 (.idx (t 155) (t 156) 1),w (.st (t 166) (t 164)) []] (x [m 167 11,m 8 167,q 9 (.mov (.const (.bool false)))] .ret))))))))))))
def m_math_bits_Len32:MC:=(x [q 2 (.mov (i 0))] (s (x [m 3 0,q 4 (.bin .geq (t 3) (.const (.int .u32 65536)))] (.cond (t 4) (x [m 5 0,q 6 (.sh false (t 5) (.const (.int .u64 16))),m 0 6] (.reg [q 2 (.mov (i 16))])) .skip)) (s (x [m 7 0,q 8 (.bin .geq (t 7) (.const (.int .u32 256)))] (.cond (t 8) (x [m 9 0,q 10 (.sh false (t 9) (.const (.int .u64 8))),m 0 10] (.reg [m 11 2,q 12 (.bin .add (t 11) (i 8)),m 2 12])) .skip)) (x [m 13 2,m 14 0,q 15 (.cvi .u8 (t 14)),r 0 16 (.raw (o (.index 9 (.const (.string ⟨[0,1,2,2,3,3,3,3,4,4,4,4,4,4,4,4,5,5,5,5,5,5,5,5,5,5,5,5,5,5,5,5,6,6,6,6,6,6,6,6,6,6,6,6,6,6,6,6,6,6,6,6,6,6,6,6,6,6,6,6,6,6,6,6,7,7,7,7,7,7,7,7,7,7,7,7,7,7,7,7,7,7,7,7,7,7,7,7,7,7,7,7,7,7,7,7,7,7,7,7,7,7,7,7,7,7,7,7,7,7,7,7,7,7,7,7,7,7,7,7,7,7,7,7,7,7,7,7,8,8,8,8,8,8,8,8,8,8,8,8,8,8,8,8,8,8,8,8,8,8,8,8,8,8,8,8,8,8,8,8,8,8,8,8,8,8,8,8,8,8,8,8,8,8,8,8,8,8,8,8,8,8,8,8,8,8,8,8,8,8,8,8,8,8,8,8,8,8,8,8,8,8,8,8,8,8,8,8,8,8,8,8,8,8,8,8,8,8,8,8,8,8,8,8,8,8,8,8,8,8,8,8,8,8,8,8,8,8,8,8,8,8,8,8,8,8,8,8,8,8,8,8,8,8,8,8].toArray⟩)) (t 15)) 5)),q 17 (.cvi .i64 (t 16)),q 18 (.bin .add (t 13) (t 17)),m 2 18] .ret))))
def m_math_bits_Len64:MC:=(x [q 2 (.mov (i 0))] (s (x [m 3 0,q 4 (.bin .geq (t 3) (.const (.int .u64 4294967296)))] (.cond (t 4) (x [m 5 0,q 6 (.sh false (t 5) (.const (.int .u64 32))),m 0 6] (.reg [q 2 (.mov (i 32))])) .skip)) (s (x [m 7 0,q 8 (.bin .geq (t 7) (.const (.int .u64 65536)))] (.cond (t 8) (x [m 9 0,q 10 (.sh false (t 9) (.const (.int .u64 16))),m 0 10] (.reg [m 11 2,q 12 (.bin .add (t 11) (i 16)),m 2 12])) .skip)) (s (x [m 13 0,q 14 (.bin .geq (t 13) (.const (.int .u64 256)))] (.cond (t 14) (x [m 15 0,q 16 (.sh false (t 15) (.const (.int .u64 8))),m 0 16] (.reg [m 17 2,q 18 (.bin .add (t 17) (i 8)),m 2 18])) .skip)) (x [m 19 2,m 20 0,q 21 (.cvi .u8 (t 20)),r 0 22 (.raw (o (.index 9 (.const (.string ⟨[0,1,2,2,3,3,3,3,4,4,4,4,4,4,4,4,5,5,5,5,5,5,5,5,5,5,5,5,5,5,5,5,6,6,6,6,6,6,6,6,6,6,6,6,6,6,6,6,6,6,6,6,6,6,6,6,6,6,6,6,6,6,6,6,7,7,7,7,7,7,7,7,7,7,7,7,7,7,7,7,7,7,7,7,7,7,7,7,7,7,7,7,7,7,7,7,7,7,7,7,7,7,7,7,7,7,7,7,7,7,7,7,7,7,7,7,7,7,7,7,7,7,7,7,7,7,7,7,8,8,8,8,8,8,8,8,8,8,8,8,8,8,8,8,8,8,8,8,8,8,8,8,8,8,8,8,8,8,8,8,8,8,8,8,8,8,8,8,8,8,8,8,8,8,8,8,8,8,8,8,8,8,8,8,8,8,8,8,8,8,8,8,8,8,8,8,8,8,8,8,8,8,8,8,8,8,8,8,8,8,8,8,8,8,8,8,8,8,8,8,8,8,8,8,8,8,8,8,8,8,8,8,8,8,8,8,8,8,8,8,8,8,8,8,8,8,8,8,8,8,8,8,8,8,8,8].toArray⟩)) (t 21)) 5)),q 23 (.cvi .i64 (t 22)),q 24 (.bin .add (t 19) (t 23)),m 2 24] .ret)))))
def m_slices_swapRangeCmpFunc_int_:MC:=(x [q 10 (.mov (i 0))] (.block 0 (.loop (s (x [m 11 10,m 12 3,q 13 (.bin .lss (t 11) (t 12))] (.cond (t 13) .skip (.exit 0))) (s (.block 1 (.reg [m 16 0,k 1 17 (.mov (t 1)),k 2 18 (.mov (t 10)),k 3 19 (.bin .add (t 17) (t 18)),k 4 20 (.mov (t 0)),k 5 21 (.mov (t 2)),k 6 22 (.mov (t 10)),k 7 23 (.bin .add (t 21) (t 22)),k 8 24 (.mov (t 0)),k 9 25 (.mov (t 2)),k 10 26 (.mov (t 10)),k 11 27 (.bin .add (t 25) (t 26)),k 12 28 (.idx (t 24) (t 27) 1),r 13 29 (.ld (t 28)),k 14 30 (.mov (t 0)),k 15 31 (.mov (t 1)),k 16 32 (.mov (t 10)),k 17 33 (.bin .add (t 31) (t 32)),k 18 34 (.idx (t 30) (t 33) 1),r 19 35 (.ld (t 34)),k 20 36 (.idx (t 16) (t 19) 1),w (.st (t 36) (t 29)) [],k 22 37 (.idx (t 20) (t 23) 1),w (.st (t 37) (t 35)) []])) (.reg [m 14 10,q 15 (.bin .add (t 14) (i 1)),m 10 15]))))))
def m_slices_siftDownOrdered_int_:MC:=(x [m 10 1,m 8 10] (.block 0 (.loop (.block 1 (x [m 11 8,q 12 (.bin .mul (i 2) (t 11)),q 13 (.bin .add (t 12) (i 1)),m 9 13] (s (x [m 14 9,m 15 2,q 16 (.bin .geq (t 14) (t 15))] (.cond (t 16) (.exit 0) .skip)) (s (x [m 17 9,k 1 18 (.bin .add (t 17) (i 1)),k 2 19 (.mov (t 2)),k 3 20 (.bin .lss (t 18) (t 19)),k 4 21 (.mov (t 20)),g 5 22 21 (.mov (t 0)),g 6 23 21 (.mov (t 3)),g 7 24 21 (.mov (t 9)),g 8 25 21 (.bin .add (t 23) (t 24)),g 9 26 21 (.idx (t 22) (t 25) 1),h 10 27 21 (.ld (t 26)),g 11 28 21 (.mov (t 0)),g 12 29 21 (.mov (t 3)),g 13 30 21 (.mov (t 9)),g 14 31 21 (.bin .add (t 29) (t 30)),g 15 32 21 (.bin .add (t 31) (i 1)),g 16 33 21 (.idx (t 28) (t 32) 1),h 17 34 21 (.ld (t 33)),.e (some 35) (some (21,true)) (.call 58 [t 27,t 34]) [],k 19 36 (.pick (t 21) (t 35) (.const (.bool false)))] (.cond (t 36) (.reg [m 37 9,q 38 (.bin .add (t 37) (i 1)),m 9 38]) .skip)) (s (x [m 39 0,k 1 40 (.mov (t 3)),k 2 41 (.mov (t 8)),k 3 42 (.bin .add (t 40) (t 41)),k 4 43 (.idx (t 39) (t 42) 1),r 5 44 (.ld (t 43)),k 6 45 (.mov (t 0)),k 7 46 (.mov (t 3)),k 8 47 (.mov (t 9)),k 9 48 (.bin .add (t 46) (t 47)),k 10 49 (.idx (t 45) (t 48) 1),r 11 50 (.ld (t 49)),e 51 (.call 58 [t 44,t 50]) [],k 13 52 (.un .not (t 51))] (.cond (t 52) .ret .skip)) (x [m 53 0,k 1 54 (.mov (t 3)),k 2 55 (.mov (t 8)),k 3 56 (.bin .add (t 54) (t 55)),k 4 57 (.mov (t 0)),k 5 58 (.mov (t 3)),k 6 59 (.mov (t 9)),k 7 60 (.bin .add (t 58) (t 59)),k 8 61 (.mov (t 0)),k 9 62 (.mov (t 3)),k 10 63 (.mov (t 9)),k 11 64 (.bin .add (t 62) (t 63)),k 12 65 (.idx (t 61) (t 64) 1),r 13 66 (.ld (t 65)),k 14 67 (.mov (t 0)),k 15 68 (.mov (t 3)),k 16 69 (.mov (t 8)),k 17 70 (.bin .add (t 68) (t 69)),k 18 71 (.idx (t 67) (t 70) 1),r 19 72 (.ld (t 71)),k 20 73 (.idx (t 53) (t 56) 1),w (.st (t 73) (t 66)) [],k 22 74 (.idx (t 57) (t 60) 1),w (.st (t 74) (t 72)) []] (.reg [m 75 9,m 8 75]))))))))))
def m_slices_nextPowerOfTwo:MC:=(x [q 2 (.mov (.const (.int .u64 0)))] (x [m 3 0,q 4 (.cvi .u64 (t 3)),e 5 (.call 88 [t 4]) [],q 6 (.sh true (.const (.int .u64 1)) (t 5)),m 2 6] .ret))
def m_slices_xorshift_Next:MC:=(x [q 2 (.mov (.const (.int .u64 0)))] (x [m 3 0,k 1 4 (.nilc (t 3)),r 2 5 (.ld (t 4)),k 3 6 (.mov (t 0)),k 4 7 (.nilc (t 6)),r 5 8 (.ld (t 7)),k 6 9 (.sh true (t 8) (.const (.int .u64 13))),k 7 10 (.bin .xor (t 5) (t 9)),k 8 11 (.nilc (t 3)),w (.st (t 11) (t 10)) []] (x [m 12 0,k 1 13 (.nilc (t 12)),r 2 14 (.ld (t 13)),k 3 15 (.mov (t 0)),k 4 16 (.nilc (t 15)),r 5 17 (.ld (t 16)),k 6 18 (.sh false (t 17) (.const (.int .u64 7))),k 7 19 (.bin .xor (t 14) (t 18)),k 8 20 (.nilc (t 12)),w (.st (t 20) (t 19)) []] (x [m 21 0,k 1 22 (.nilc (t 21)),r 2 23 (.ld (t 22)),k 3 24 (.mov (t 0)),k 4 25 (.nilc (t 24)),r 5 26 (.ld (t 25)),k 6 27 (.sh true (t 26) (.const (.int .u64 17))),k 7 28 (.bin .xor (t 23) (t 27)),k 8 29 (.nilc (t 21)),w (.st (t 29) (t 28)) []] (x [m 30 0,q 31 (.nilc (t 30)),l 32 31,m 2 32] .ret)))))
def m_slices_medianAdjacentOrdered_int_:MC:=(x [q 6 (.mov (i 0))] (x [m 7 0,m 8 1,q 9 (.bin .sub (t 8) (i 1)),m 10 1,m 11 1,q 12 (.bin .add (t 11) (i 1)),m 13 2,e 14 (.call 105 [t 7,t 9,t 10,t 12,t 13]) [],m 6 14] .ret))
def m_slices_medianOrdered_int_:MC:=(x [q 10 (.mov (i 0))] (x [m 12 0,m 13 1,m 14 2,m 15 4,e 16 (.call 106 [t 12,t 13,t 14,t 15]) [],m 11 16,q 17 (.ext (t 11) 0),q 18 (.ext (t 11) 1),m 1 17,m 2 18] (x [m 20 0,m 21 2,m 22 3,m 23 4,e 24 (.call 106 [t 20,t 21,t 22,t 23]) [],m 19 24,q 25 (.ext (t 19) 0),q 26 (.ext (t 19) 1),m 2 25,m 3 26] (x [m 28 0,m 29 1,m 30 2,m 31 4,e 32 (.call 106 [t 28,t 29,t 30,t 31]) [],m 27 32,q 33 (.ext (t 27) 0),q 34 (.ext (t 27) 1),m 1 33,m 2 34] (x [m 35 2,m 10 35] .ret)))))
def m_slices_order2Ordered_int_:MC:=(x [q 8 (.mov (i 0)),q 9 (.mov (i 0))] (s (x [m 10 0,k 1 11 (.mov (t 2)),k 2 12 (.idx (t 10) (t 11) 1),r 3 13 (.ld (t 12)),k 4 14 (.mov (t 0)),k 5 15 (.mov (t 1)),k 6 16 (.idx (t 14) (t 15) 1),r 7 17 (.ld (t 16)),e 18 (.call 58 [t 13,t 17]) []] (.cond (t 18) (x [m 19 3,q 20 (.nilc (t 19)),l 21 20,q 22 (.bin .add (t 21) (i 1)),q 23 (.nilc (t 19)),w (.st (t 23) (t 22)) []] (x [m 24 2,m 25 1,m 8 24,m 9 25] .ret)) .skip)) (x [m 26 1,m 27 2,m 8 26,m 9 27] .ret)))
end Go.Proofs.Ythgmdlmeeebfiaa
end
section
namespace Go.Proofs.Ythgmdlmeeebfiaa
open Go Go.Tum
def isTmpR:RV→Bool
 | .tmp _=>true
 | _=>false
theorem rowKit {k np:Nat} {res:List RV} {m:MC} {fn:Func} (e:EOk k np m fn) (h1:callable Try.prog k=true:=by kernel_rfl) (h2:Nat.ble res.length 4=true:=by exact rfl) (h3:fn.results=(res.map RV.real).toArray:=by exact rfl) (h4:res.all isTmpR=true:=by exact rfl):FnRow.Ok Try.prog ⟨k,np,res,m⟩ :=
 ⟨h1,fn,Nat.le_of_ble_eq_true h2,h3,fun r hr=>(by have:=List.all_eq_true.1 h4 r hr; cases r with | tmp _=>exact trivial | cell _ _ _=>cases this),fun _ _ _ hn h=>e hn h⟩
def row_tumbrellaw15_SpecApart:FnRow:=⟨3,84,[(.tmp 6)],m_tumbrellaw15_SpecApart⟩
def row_tumbrellaw15_SpecKeys:FnRow:=⟨4,118,[(.tmp 10)],m_tumbrellaw15_SpecKeys⟩
def row_tumbrellaw15_SpecAlways:FnRow:=⟨5,102,[(.tmp 10)],m_tumbrellaw15_SpecAlways⟩
def row_tumbrellaw16_LinearOrder:FnRow:=⟨6,64,[(.tmp 6)],m_tumbrellaw16_LinearOrder⟩
def row_tumbrellaw16_LinearAlone:FnRow:=⟨7,106,[(.tmp 6)],m_tumbrellaw16_LinearAlone⟩
def row_tumbrellaw16_LinearRight:FnRow:=⟨8,64,[(.tmp 8)],m_tumbrellaw16_LinearRight⟩
theorem row_tumbrellaw16_LinearRight_ok:row_tumbrellaw16_LinearRight.Ok Try.prog:=rowKit e_tumbrellaw16_LinearRight
def row_tumbrellaw15_played:FnRow:=⟨9,75,[(.cell 8 28 4),(.cell 9 31 4),(.tmp 10)],m_tumbrellaw15_played⟩
def row_tumbrelref15_In:FnRow:=⟨10,18,[(.tmp 4)],m_tumbrelref15_In⟩
theorem row_tumbrelref15_In_ok:row_tumbrelref15_In.Ok Try.prog:=rowKit e_tumbrelref15_In
def row_spec_State_Live:FnRow:=⟨11,20,[(.tmp 2)],m_spec_State_Live⟩
def row_tumbrellaw15_awake:FnRow:=⟨12,31,[(.tmp 0)],m_tumbrellaw15_awake⟩
def row_spec_State_Key:FnRow:=⟨13,54,[(.tmp 2)],m_spec_State_Key⟩
theorem row_spec_State_Key_ok:row_spec_State_Key.Ok Try.prog:=rowKit e_spec_State_Key
def row_tumbrellaw15_cut:FnRow:=⟨14,9,[(.tmp 2)],m_tumbrellaw15_cut⟩
def row_spec_State_Next:FnRow:=⟨15,99,[(.cell 4 28 4),(.tmp 5)],m_spec_State_Next⟩
theorem row_spec_State_Next_ok:row_spec_State_Next.Ok Try.prog:=⟨(by kernel_rfl:callable Try.prog 15=true),Try.f15,Nat.le_of_ble_eq_true rfl,rfl,fun r hr=>(by rcases List.mem_cons.1 hr with rfl | hr; exact (by show aggT Try.prog 28=some 4; kernel_rfl); exact (by rcases List.mem_cons.1 hr with rfl | hr; exact trivial; exact (by cases hr))),fun _ _ _ hn h=>e_spec_State_Next hn h⟩
def row_tumbrellaw15_Ours:FnRow:=⟨16,12,[(.cell 2 48 4)],m_tumbrellaw15_Ours⟩
def row_tumbrelref15_Same:FnRow:=⟨17,93,[(.tmp 4)],m_tumbrelref15_Same⟩
def row_spec_State_May:FnRow:=⟨18,13,[(.tmp 4)],m_spec_State_May⟩
theorem row_spec_State_May_ok:row_spec_State_May.Ok Try.prog:=rowKit e_spec_State_May
def row_tumbrelref15_Has:FnRow:=⟨19,19,[(.tmp 4)],m_tumbrelref15_Has⟩
theorem row_tumbrelref15_Has_ok:row_tumbrelref15_Has.Ok Try.prog:=rowKit e_tumbrelref15_Has
def row_tumbrellaw16_bounds:FnRow:=⟨20,12,[(.cell 4 24 2),(.cell 5 31 4)],m_tumbrellaw16_bounds⟩
theorem row_tumbrellaw16_bounds_ok:row_tumbrellaw16_bounds.Ok Try.prog:=⟨(by kernel_rfl:callable Try.prog 20=true),Try.f20,Nat.le_of_ble_eq_true rfl,rfl,fun r hr=>(by rcases List.mem_cons.1 hr with rfl | hr; exact (by show aggT Try.prog 24=some 2; kernel_rfl); exact (by rcases List.mem_cons.1 hr with rfl | hr; exact (by show aggT Try.prog 31=some 4; kernel_rfl); exact (by cases hr))),fun _ _ _ hn h=>e_tumbrellaw16_bounds hn h⟩
def row_tumbrellaw16_few:FnRow:=⟨21,36,[(.tmp 4)],m_tumbrellaw16_few⟩
theorem row_tumbrellaw16_few_ok:row_tumbrellaw16_few.Ok Try.prog:=rowKit e_tumbrellaw16_few
def row_linear_Order:FnRow:=⟨22,24,[(.tmp 4),(.tmp 5),(.tmp 6)],m_linear_Order⟩
theorem row_linear_Order_ok:row_linear_Order.Ok Try.prog:=rowKit e_linear_Order
def row_tumbrellaw16_ours:FnRow:=⟨23,34,[(.tmp 2)],m_tumbrellaw16_ours⟩
theorem row_tumbrellaw16_ours_ok:row_tumbrellaw16_ours.Ok Try.prog:=rowKit e_tumbrellaw16_ours
def row_tumbrelref16_First:FnRow:=⟨24,89,[(.tmp 8),(.tmp 9)],m_tumbrelref16_First⟩
def row_tumbrellaw16_same:FnRow:=⟨25,26,[(.tmp 4)],m_tumbrellaw16_same⟩
theorem row_tumbrellaw16_same_ok:row_tumbrellaw16_same.Ok Try.prog:=rowKit e_tumbrellaw16_same
def row_linear_Right:FnRow:=⟨26,61,[(.tmp 6)],m_linear_Right⟩
theorem row_linear_Right_ok:row_linear_Right.Ok Try.prog:=rowKit e_linear_Right
def row_tumbrellaw16_awake:FnRow:=⟨27,52,[(.tmp 0)],m_tumbrellaw16_awake⟩
theorem row_tumbrellaw16_awake_ok:row_tumbrellaw16_awake.Ok Try.prog:=rowKit e_tumbrellaw16_awake
def row_tumbrelref15_May:FnRow:=⟨28,98,[(.tmp 4)],m_tumbrelref15_May⟩
theorem row_tumbrelref15_May_ok:row_tumbrelref15_May.Ok Try.prog:=rowKit e_tumbrelref15_May
def row_tumbrelref15_Next:FnRow:=⟨29,128,[(.cell 4 31 4)],m_tumbrelref15_Next⟩
theorem row_tumbrelref15_Next_ok:row_tumbrelref15_Next.Ok Try.prog:=⟨(by kernel_rfl:callable Try.prog 29=true),Try.f29,Nat.le_of_ble_eq_true rfl,rfl,fun r hr=>(by rcases List.mem_cons.1 hr with rfl | hr; exact (by show aggT Try.prog 31=some 4; kernel_rfl); exact (by cases hr)),fun _ _ _ hn h=>e_tumbrelref15_Next hn h⟩
def row_linear_ByMoment:FnRow:=⟨30,26,[(.tmp 4),(.tmp 5)],m_linear_ByMoment⟩
theorem row_linear_ByMoment_ok:row_linear_ByMoment.Ok Try.prog:=rowKit e_linear_ByMoment
def row_tumbrelref16_ByMoment:FnRow:=⟨31,51,[(.tmp 2)],m_tumbrelref16_ByMoment⟩
theorem row_tumbrelref16_ByMoment_ok:row_tumbrelref16_ByMoment.Ok Try.prog:=rowKit e_tumbrelref16_ByMoment
def row_tumbrelref16_Right:FnRow:=⟨32,72,[(.tmp 6)],m_tumbrelref16_Right⟩
theorem row_tumbrelref16_Right_ok:row_tumbrelref16_Right.Ok Try.prog:=rowKit e_tumbrelref16_Right
def row_spec_New:FnRow:=⟨33,5,[(.cell 2 28 4)],m_spec_New⟩
theorem row_spec_New_ok:row_spec_New.Ok Try.prog:=⟨(by kernel_rfl:callable Try.prog 33=true),Try.f33,Nat.le_of_ble_eq_true rfl,rfl,fun r hr=>(by rcases List.mem_cons.1 hr with rfl | hr; exact (by show aggT Try.prog 28=some 4; kernel_rfl); exact (by cases hr)),fun _ _ _ hn h=>e_spec_New hn h⟩
def row_spec_State_Key_c1:FnRow:=⟨34,8,[],m_spec_State_Key_c1⟩
theorem row_spec_State_Key_c1_ok:row_spec_State_Key_c1.Ok Try.prog:=rowKit e_spec_State_Key_c1
def row_num_Put:FnRow:=⟨35,30,[(.tmp 4)],m_num_Put⟩
theorem row_num_Put_ok:row_num_Put.Ok Try.prog:=rowKit e_num_Put
def row_slices_Clone_spec_block_spec_block_:FnRow:=⟨36,8,[(.tmp 2)],m_slices_Clone_spec_block_spec_block_⟩
theorem row_slices_Clone_spec_block_spec_block__ok:row_slices_Clone_spec_block_spec_block_.Ok Try.prog:=rowKit e_slices_Clone_spec_block_spec_block_
def row_slices_Clone_int_int_:FnRow:=⟨37,8,[(.tmp 2)],m_slices_Clone_int_int_⟩
theorem row_slices_Clone_int_int__ok:row_slices_Clone_int_int_.Ok Try.prog:=rowKit e_slices_Clone_int_int_
def row_spec_State_find:FnRow:=⟨38,13,[(.tmp 4),(.tmp 5)],m_spec_State_find⟩
theorem row_spec_State_find_ok:row_spec_State_find.Ok Try.prog:=rowKit e_spec_State_find
def row_slices_Delete_spec_block_spec_block_:FnRow:=⟨39,33,[(.tmp 6)],m_slices_Delete_spec_block_spec_block_⟩
theorem row_slices_Delete_spec_block_spec_block__ok:row_slices_Delete_spec_block_spec_block_.Ok Try.prog:=rowKit e_slices_Delete_spec_block_spec_block_
def row_slices_BinarySearch_int_int_:FnRow:=⟨40,54,[(.tmp 4),(.tmp 5)],m_slices_BinarySearch_int_int_⟩
theorem row_slices_BinarySearch_int_int__ok:row_slices_BinarySearch_int_int_.Ok Try.prog:=rowKit e_slices_BinarySearch_int_int_
def row_slices_Insert_int_int_:FnRow:=⟨41,95,[(.tmp 6)],m_slices_Insert_int_int_⟩
theorem row_slices_Insert_int_int__ok:row_slices_Insert_int_int_.Ok Try.prog:=rowKit e_slices_Insert_int_int_
def row_slices_Insert_spec_block_spec_block_:FnRow:=⟨42,95,[(.tmp 6)],m_slices_Insert_spec_block_spec_block_⟩
theorem row_slices_Insert_spec_block_spec_block__ok:row_slices_Insert_spec_block_spec_block_.Ok Try.prog:=rowKit e_slices_Insert_spec_block_spec_block_
def row_slices_DeleteFunc_int_int_:FnRow:=⟨43,42,[(.tmp 4)],m_slices_DeleteFunc_int_int_⟩
theorem row_slices_DeleteFunc_int_int__ok:row_slices_DeleteFunc_int_int_.Ok Try.prog:=rowKit e_slices_DeleteFunc_int_int_
def row_spec_State_Next_c1:FnRow:=⟨44,17,[(.tmp 3)],m_spec_State_Next_c1⟩
theorem row_spec_State_Next_c1_ok:row_spec_State_Next_c1.Ok Try.prog:=rowKit e_spec_State_Next_c1
def row_spec_State_free:FnRow:=⟨45,54,[(.tmp 4)],m_spec_State_free⟩
theorem row_spec_State_free_ok:row_spec_State_free.Ok Try.prog:=rowKit e_spec_State_free
def row_spec_State_malloc:FnRow:=⟨46,50,[(.tmp 4)],m_spec_State_malloc⟩
theorem row_spec_State_malloc_ok:row_spec_State_malloc.Ok Try.prog:=rowKit e_spec_State_malloc
def row_linear_search_from:FnRow:=⟨47,94,[(.tmp 6)],m_linear_search_from⟩
theorem row_linear_search_from_ok:row_linear_search_from.Ok Try.prog:=rowKit e_linear_search_from
def row_tumbrelref16_Call:FnRow:=⟨48,12,[(.cell 2 44 4)],m_tumbrelref16_Call⟩
theorem row_tumbrelref16_Call_ok:row_tumbrelref16_Call.Ok Try.prog:=⟨(by kernel_rfl:callable Try.prog 48=true),Try.f48,Nat.le_of_ble_eq_true rfl,rfl,fun r hr=>(by rcases List.mem_cons.1 hr with rfl | hr; exact (by show aggT Try.prog 44=some 4; kernel_rfl); exact (by cases hr)),fun _ _ _ hn h=>e_tumbrelref16_Call hn h⟩
def row_linear_whole:FnRow:=⟨49,26,[(.tmp 4)],m_linear_whole⟩
theorem row_linear_whole_ok:row_linear_whole.Ok Try.prog:=rowKit e_linear_whole
def row_linear_ahead:FnRow:=⟨50,10,[(.tmp 4)],m_linear_ahead⟩
theorem row_linear_ahead_ok:row_linear_ahead.Ok Try.prog:=rowKit e_linear_ahead
def row_linear_call:FnRow:=⟨51,12,[(.cell 2 48 4)],m_linear_call⟩
theorem row_linear_call_ok:row_linear_call.Ok Try.prog:=⟨(by kernel_rfl:callable Try.prog 51=true),Try.f51,Nat.le_of_ble_eq_true rfl,rfl,fun r hr=>(by rcases List.mem_cons.1 hr with rfl | hr; exact (by show aggT Try.prog 48=some 4; kernel_rfl); exact (by cases hr)),fun _ _ _ hn h=>e_linear_call hn h⟩
def row_tumbrelref15_malloc:FnRow:=⟨52,64,[(.tmp 4)],m_tumbrelref15_malloc⟩
theorem row_tumbrelref15_malloc_ok:row_tumbrelref15_malloc.Ok Try.prog:=rowKit e_tumbrelref15_malloc
def row_slices_SortStableFunc_int_int_:FnRow:=⟨53,9,[],m_slices_SortStableFunc_int_int_⟩
theorem row_slices_SortStableFunc_int_int__ok:row_slices_SortStableFunc_int_int_.Ok Try.prog:=rowKit e_slices_SortStableFunc_int_int_
def row_linear_ByMoment_c1:FnRow:=⟨54,17,[(.tmp 5)],m_linear_ByMoment_c1⟩
theorem row_linear_ByMoment_c1_ok:row_linear_ByMoment_c1.Ok Try.prog:=rowKit e_linear_ByMoment_c1
def row_cmp_Compare_int_:FnRow:=⟨55,20,[(.tmp 4)],m_cmp_Compare_int_⟩
theorem row_cmp_Compare_int__ok:row_cmp_Compare_int_.Ok Try.prog:=rowKit e_cmp_Compare_int_
def row_slices_BinarySearchFunc_spec_block_spec_block_spec_block_:FnRow:=⟨56,49,[(.tmp 6),(.tmp 7)],m_slices_BinarySearchFunc_spec_block_spec_block_spec_block_⟩
theorem row_slices_BinarySearchFunc_spec_block_spec_block_spec_block__ok:row_slices_BinarySearchFunc_spec_block_spec_block_spec_block_.Ok Try.prog:=rowKit e_slices_BinarySearchFunc_spec_block_spec_block_spec_block_
def row_spec_block_order:FnRow:=⟨57,10,[(.tmp 4)],m_spec_block_order⟩
theorem row_spec_block_order_ok:row_spec_block_order.Ok Try.prog:=rowKit e_spec_block_order
def row_cmp_Less_int_:FnRow:=⟨58,17,[(.tmp 4)],m_cmp_Less_int_⟩
theorem row_cmp_Less_int__ok:row_cmp_Less_int_.Ok Try.prog:=rowKit e_cmp_Less_int_
def row_slices_isNaN_int_:FnRow:=⟨59,6,[(.tmp 2)],m_slices_isNaN_int_⟩
theorem row_slices_isNaN_int__ok:row_slices_isNaN_int_.Ok Try.prog:=rowKit e_slices_isNaN_int_
def row_slices_rotateRight_int_:FnRow:=⟨61,10,[],m_slices_rotateRight_int_⟩
def row_slices_rotateRight_spec_block_:FnRow:=⟨63,10,[],m_slices_rotateRight_spec_block_⟩
def row_slices_IndexFunc_int_int_:FnRow:=⟨64,19,[(.tmp 4)],m_slices_IndexFunc_int_int_⟩
theorem row_slices_IndexFunc_int_int__ok:row_slices_IndexFunc_int_int_.Ok Try.prog:=rowKit e_slices_IndexFunc_int_int_
def row_spec_State_must:FnRow:=⟨65,32,[(.tmp 4),(.tmp 5)],m_spec_State_must⟩
theorem row_spec_State_must_ok:row_spec_State_must.Ok Try.prog:=rowKit e_spec_State_must
def row_slices_Contains_int_int_:FnRow:=⟨66,9,[(.tmp 4)],m_slices_Contains_int_int_⟩
theorem row_slices_Contains_int_int__ok:row_slices_Contains_int_int_.Ok Try.prog:=rowKit e_slices_Contains_int_int_
def row_spec_State_meets:FnRow:=⟨67,11,[(.tmp 6)],m_spec_State_meets⟩
theorem row_spec_State_meets_ok:row_spec_State_meets.Ok Try.prog:=rowKit e_spec_State_meets
def row_linear_search_ready:FnRow:=⟨68,46,[(.tmp 6)],m_linear_search_ready⟩
theorem row_linear_search_ready_ok:row_linear_search_ready.Ok Try.prog:=rowKit e_linear_search_ready
def row_slices_Sorted_int_:FnRow:=⟨69,9,[(.tmp 2)],m_slices_Sorted_int_⟩
theorem row_slices_Sorted_int__ok:row_slices_Sorted_int_.Ok Try.prog:=rowKit e_slices_Sorted_int_
def row_slices_Values_int_int_:FnRow:=⟨70,4,[(.tmp 2)],m_slices_Values_int_int_⟩
theorem row_slices_Values_int_int__ok:row_slices_Values_int_int_.Ok Try.prog:=rowKit e_slices_Values_int_int_
def row_slices_stableCmpFunc_int_:FnRow:=⟨71,63,[],m_slices_stableCmpFunc_int_⟩
theorem row_slices_stableCmpFunc_int__ok:row_slices_stableCmpFunc_int_.Ok Try.prog:=rowKit e_slices_stableCmpFunc_int_
def row_cmp_isNaN_int_:FnRow:=⟨72,6,[(.tmp 2)],m_cmp_isNaN_int_⟩
theorem row_cmp_isNaN_int__ok:row_cmp_isNaN_int_.Ok Try.prog:=rowKit e_cmp_isNaN_int_
def row_slices_rotateLeft_int_:FnRow:=⟨73,14,[],m_slices_rotateLeft_int_⟩
def row_slices_rotateLeft_spec_block_:FnRow:=⟨74,14,[],m_slices_rotateLeft_spec_block_⟩
def row_slices_Index_int_int_:FnRow:=⟨75,19,[(.tmp 4)],m_slices_Index_int_int_⟩
theorem row_slices_Index_int_int__ok:row_slices_Index_int_int_.Ok Try.prog:=rowKit e_slices_Index_int_int_
def row_slices_ContainsFunc_spec_block_spec_block_:FnRow:=⟨76,9,[(.tmp 4)],m_slices_ContainsFunc_spec_block_spec_block_⟩
theorem row_slices_ContainsFunc_spec_block_spec_block__ok:row_slices_ContainsFunc_spec_block_spec_block_.Ok Try.prog:=rowKit e_slices_ContainsFunc_spec_block_spec_block_
def row_spec_State_meets_c1:FnRow:=⟨77,20,[(.tmp 4)],m_spec_State_meets_c1⟩
theorem row_spec_State_meets_c1_ok:row_spec_State_meets_c1.Ok Try.prog:=rowKit e_spec_State_meets_c1
def row_slices_Collect_int_:FnRow:=⟨78,5,[(.tmp 2)],m_slices_Collect_int_⟩
theorem row_slices_Collect_int__ok:row_slices_Collect_int_.Ok Try.prog:=rowKit e_slices_Collect_int_
def row_slices_Sort_int_int_:FnRow:=⟨79,11,[],m_slices_Sort_int_int_⟩
def row_slices_Values_int_int__c1:FnRow:=⟨80,16,[],m_slices_Values_int_int__c1⟩
def row_slices_insertionSortCmpFunc_int_:FnRow:=⟨81,53,[],m_slices_insertionSortCmpFunc_int_⟩
theorem row_slices_insertionSortCmpFunc_int__ok:row_slices_insertionSortCmpFunc_int_.Ok Try.prog:=rowKit e_slices_insertionSortCmpFunc_int_
def row_slices_symMergeCmpFunc_int_:FnRow:=⟨82,220,[],m_slices_symMergeCmpFunc_int_⟩
def row_slices_Reverse_int_int_:FnRow:=⟨83,28,[],m_slices_Reverse_int_int_⟩
def row_slices_Reverse_spec_block_spec_block_:FnRow:=⟨84,28,[],m_slices_Reverse_spec_block_spec_block_⟩
def row_slices_IndexFunc_spec_block_spec_block_:FnRow:=⟨85,19,[(.tmp 4)],m_slices_IndexFunc_spec_block_spec_block_⟩
theorem row_slices_IndexFunc_spec_block_spec_block__ok:row_slices_IndexFunc_spec_block_spec_block_.Ok Try.prog:=rowKit e_slices_IndexFunc_spec_block_spec_block_
def row_slices_pdqsortOrdered_int_:FnRow:=⟨87,134,[],m_slices_pdqsortOrdered_int_⟩
def row_math_bits_Len:FnRow:=⟨88,8,[(.tmp 2)],m_math_bits_Len⟩
def row_slices_rotateCmpFunc_int_:FnRow:=⟨89,58,[],m_slices_rotateCmpFunc_int_⟩
def row_slices_insertionSortOrdered_int_:FnRow:=⟨90,49,[],m_slices_insertionSortOrdered_int_⟩
def row_slices_heapSortOrdered_int_:FnRow:=⟨91,56,[],m_slices_heapSortOrdered_int_⟩
def row_slices_breakPatternsOrdered_int_:FnRow:=⟨92,65,[],m_slices_breakPatternsOrdered_int_⟩
def row_slices_choosePivotOrdered_int_:FnRow:=⟨93,57,[(.tmp 6),(.tmp 7)],m_slices_choosePivotOrdered_int_⟩
def row_slices_reverseRangeOrdered_int_:FnRow:=⟨94,32,[],m_slices_reverseRangeOrdered_int_⟩
def row_slices_partialInsertionSortOrdered_int_:FnRow:=⟨95,133,[(.tmp 6)],m_slices_partialInsertionSortOrdered_int_⟩
def row_slices_partitionEqualOrdered_int_:FnRow:=⟨96,84,[(.tmp 8)],m_slices_partitionEqualOrdered_int_⟩
def row_slices_partitionOrdered_int_:FnRow:=⟨97,168,[(.tmp 8),(.tmp 9)],m_slices_partitionOrdered_int_⟩
def row_math_bits_Len32:FnRow:=⟨98,19,[(.tmp 2)],m_math_bits_Len32⟩
def row_math_bits_Len64:FnRow:=⟨99,25,[(.tmp 2)],m_math_bits_Len64⟩
def row_slices_swapRangeCmpFunc_int_:FnRow:=⟨100,38,[],m_slices_swapRangeCmpFunc_int_⟩
def row_slices_siftDownOrdered_int_:FnRow:=⟨101,76,[],m_slices_siftDownOrdered_int_⟩
def row_slices_nextPowerOfTwo:FnRow:=⟨102,7,[(.tmp 2)],m_slices_nextPowerOfTwo⟩
def row_slices_xorshift_Next:FnRow:=⟨103,33,[(.tmp 2)],m_slices_xorshift_Next⟩
def row_slices_medianAdjacentOrdered_int_:FnRow:=⟨104,15,[(.tmp 6)],m_slices_medianAdjacentOrdered_int_⟩
def row_slices_medianOrdered_int_:FnRow:=⟨105,36,[(.tmp 10)],m_slices_medianOrdered_int_⟩
def row_slices_order2Ordered_int_:FnRow:=⟨106,28,[(.tmp 8),(.tmp 9)],m_slices_order2Ordered_int_⟩
def rows:List FnRow:=[row_tumbrellaw15_SpecApart,row_tumbrellaw15_SpecKeys,row_tumbrellaw15_SpecAlways,row_tumbrellaw16_LinearOrder,row_tumbrellaw16_LinearAlone,row_tumbrellaw16_LinearRight,row_tumbrellaw15_played,row_tumbrelref15_In,row_spec_State_Live,row_tumbrellaw15_awake,row_spec_State_Key,row_tumbrellaw15_cut,row_spec_State_Next,row_tumbrellaw15_Ours,row_tumbrelref15_Same,row_spec_State_May,row_tumbrelref15_Has,row_tumbrellaw16_bounds,row_tumbrellaw16_few,row_linear_Order,row_tumbrellaw16_ours,row_tumbrelref16_First,row_tumbrellaw16_same,row_linear_Right,row_tumbrellaw16_awake,row_tumbrelref15_May,row_tumbrelref15_Next,row_linear_ByMoment,row_tumbrelref16_ByMoment,row_tumbrelref16_Right,row_spec_New,row_spec_State_Key_c1,row_num_Put,row_slices_Clone_spec_block_spec_block_,row_slices_Clone_int_int_,row_spec_State_find,row_slices_Delete_spec_block_spec_block_,row_slices_BinarySearch_int_int_,row_slices_Insert_int_int_,row_slices_Insert_spec_block_spec_block_,row_slices_DeleteFunc_int_int_,row_spec_State_Next_c1,row_spec_State_free,row_spec_State_malloc,row_linear_search_from,row_tumbrelref16_Call,row_linear_whole,row_linear_ahead,row_linear_call,row_tumbrelref15_malloc,row_slices_SortStableFunc_int_int_,row_linear_ByMoment_c1,row_cmp_Compare_int_,row_slices_BinarySearchFunc_spec_block_spec_block_spec_block_,row_spec_block_order,row_cmp_Less_int_,row_slices_isNaN_int_,row_slices_rotateRight_int_,row_slices_rotateRight_spec_block_,row_slices_IndexFunc_int_int_,row_spec_State_must,row_slices_Contains_int_int_,row_spec_State_meets,row_linear_search_ready,row_slices_Sorted_int_,row_slices_Values_int_int_,row_slices_stableCmpFunc_int_,row_cmp_isNaN_int_,row_slices_rotateLeft_int_,row_slices_rotateLeft_spec_block_,row_slices_Index_int_int_,row_slices_ContainsFunc_spec_block_spec_block_,row_spec_State_meets_c1,row_slices_Collect_int_,row_slices_Sort_int_int_,row_slices_Values_int_int__c1,row_slices_insertionSortCmpFunc_int_,row_slices_symMergeCmpFunc_int_,row_slices_Reverse_int_int_,row_slices_Reverse_spec_block_spec_block_,row_slices_IndexFunc_spec_block_spec_block_,row_slices_pdqsortOrdered_int_,row_math_bits_Len,row_slices_rotateCmpFunc_int_,row_slices_insertionSortOrdered_int_,row_slices_heapSortOrdered_int_,row_slices_breakPatternsOrdered_int_,row_slices_choosePivotOrdered_int_,row_slices_reverseRangeOrdered_int_,row_slices_partialInsertionSortOrdered_int_,row_slices_partitionEqualOrdered_int_,row_slices_partitionOrdered_int_,row_math_bits_Len32,row_math_bits_Len64,row_slices_swapRangeCmpFunc_int_,row_slices_siftDownOrdered_int_,row_slices_nextPowerOfTwo,row_slices_xorshift_Next,row_slices_medianAdjacentOrdered_int_,row_slices_medianOrdered_int_,row_slices_order2Ordered_int_]
end Go.Proofs.Ythgmdlmeeebfiaa
end
section
namespace Go.Tum
open Go
def byteC (x:BitVec 8):List Value:=[.int .u8 (x.toNat:Int)]
theorem byteC_ok:RowOk byteC 1:=⟨fun _=>rfl,fun _=>rfl⟩
theorem wrap_u64 (n:Int):IntKind.u64.wrap n=((BitVec.ofInt 64 n).toNat:Int):=by
 rw [BitVec.toNat_ofInt,Int.toNat_of_nonneg (Int.emod_nonneg _ (by decide))]
 rfl
theorem wrap_u8 (n:Int):IntKind.u8.wrap n=((BitVec.ofInt 8 n).toNat:Int):=by
 rw [BitVec.toNat_ofInt,Int.toNat_of_nonneg (Int.emod_nonneg _ (by decide))]
 rfl
section
variable {P:Program} {n0:NA} {l:Env} {L:LH} {x y:Operand}
theorem ishift_shr (a:BitVec 64) (n:Nat):ishift false .u64 (a.toNat:Int) (n:Int)=((a >>> n).toNat:Int):=by
 simp only [ishift]
 rw [BitVec.toNat_ushiftRight,Nat.shiftRight_eq_div_pow,Int.toNat_natCast]
 have h64:IntKind.u64.bits=64:=rfl
 rw [h64,Int.fdiv_eq_ediv_of_nonneg _ (Int.pow_nonneg (by decide))]
 have e:((2:Int) ^ min n 64)=((2 ^ min n 64:Nat):Int):=by norm_cast
 rw [e,← Int.natCast_ediv]
 rcases Nat.le_total n 64 with h | h
 ·rw [Nat.min_eq_left h]
 ·rw [Nat.min_eq_right h,Nat.div_eq_of_lt a.isLt,Nat.div_eq_of_lt (Nat.lt_of_lt_of_le a.isLt (Nat.pow_le_pow_right (by decide) h))]
theorem QY.shrW {a:BitVec 64} {n:Nat} {k':IntKind} (hx:lv l x=some (.int .u64 (a.toNat:Int))) (hy:lv l y=some (.int k' (n:Int))):QY P n0 L l (.sh false x y) (.int .u64 ((a >>> n).toNat:Int)) :=
 QY.shift hx hy (by omega) (ishift_shr a n)
theorem QY.cvi {k k':IntKind} {n m:Int} (hx:lv l x=some (.int k' n)) (hm:k.wrap n=m):QY P n0 L l (.cvi k x) (.int k m):=by
 intro X w0 E0 w E l' h0 hE hR hl
 obtain ⟨_,h1,rfl⟩:=lv_ev hl hx
 exact ⟨_,⟨k',n,h1,rfl⟩,by rw [hm]; rfl⟩
theorem QY.cvWB {a:BitVec 64} (hx:lv l x=some (.int .u64 (a.toNat:Int))):QY P n0 L l (.cvi .u8 x) (.int .u8 ((a.setWidth 8).toNat:Int)) :=
 QY.cvi hx (by rw [wrap_u8,BitVec.ofInt_natCast,BitVec.ofNat_toNat])
theorem QY.divN {a b c:Int} (hx:lv l x=some (.int .i64 a)) (hy:lv l y=some (.int .i64 b)) (hc:a / b=c) (ha:0≤a∧a≤9223372036854775807) (hb:0<b):QY P n0 L l (.bin .quo x y) (.int .i64 c):=by
 have h1:a / b≤a:=Int.ediv_le_self _ ha.1
 have h2:0≤a / b:=Int.ediv_nonneg ha.1 (by omega)
 exact QY.quo hx hy (by omega) (by rw [← hc,Int.tdiv_eq_ediv_of_nonneg ha.1]) (by omega) (by omega)
theorem QY.remN {a b c:Int} (hx:lv l x=some (.int .i64 a)) (hy:lv l y=some (.int .i64 b)) (hc:a % b=c) (ha:0≤a) (hb:0<b):QY P n0 L l (.bin .rem x y) (.int .i64 c) :=
 QY.rem hx hy (by omega) (by rw [← hc,Int.tmod_eq_emod_of_nonneg ha])
theorem EW.stY {b k:Nat} {xs:List (BitVec 8)} {a:BitVec 8} (hx:lv l x=some (.pointer (some ⟨b,k*1,none⟩))) (hy:lv l y=some (.int .u8 (a.toNat:Int))) (hb:L[b]?=some (.gro 1 (rowsC byteC xs))) (hk:k<xs.length) :
  EW P n0 L l (.st x y) (fun w K=>w=undef∧K=L.set b (.gro 1 (rowsC byteC (xs.set k a)))) :=
 EW.stF (j:=0) (a':=a) byteC_ok hx hy hb (List.getElem?_eq_getElem hk) (by omega) rfl rfl
end
end Go.Tum
end
section
namespace Go.Tum
open Go
section
variable {P:Program} {n0:NA} {l:Env} {L:LH}
theorem set_self {α:Type} {l:List α} {i:Nat} {a:α} (h:l[i]?=some a):l.set i a=l:=by
 obtain ⟨hi,rfl⟩:=List.getElem?_eq_some_iff.1 h
 exact List.set_getElem_self hi
theorem Rep.putg {X:Nat→Prop} {w0 w:World} {E:Emb} {b sz o:Nat} {vs us:List Value} {r:Nat × Nat × Nat} (hR:Rep X w0 E L w) (hb:L[b]?=some (.gro sz vs)) (hr:E[b]?=some r) (hu:us.all stillS=true) (ho:o+us.length≤vs.length) (hn0:0<us.length) :
  ∃ cs,Blk w r.1 cs∧o+r.2.1+us.length≤cs.length∧Rep X w0 E (L.set b (.gro sz (splice vs o us))) (putCells w ⟨r.1,o+r.2.1,none⟩ 0 us):=by
 rcases hR.blk b _ r hb hr with ⟨rfl,_⟩ | ⟨hne,hsz,cs,hB,hcs,hroom⟩
 ·simp only [List.length_nil] at ho; omega
 ·have hcl:o+r.2.1+us.length≤cs.length:=by omega
  have hls:(splice vs o us).length=vs.length:=splice_length (by omega)
  have hne2:splice vs o us≠[]:=by intro e; apply hne; have:=congrArg List.length e; rw [hls] at this; exact List.length_eq_zero_iff.1 (by simpa using this)
  have hpb:=putCells_blk (o:=o+r.2.1) us 0 w _ hB (by omega)
  refine ⟨cs,hB,hcl,hR.upd hb hr ?_ (.inr ⟨hne2,hsz,_,hpb,?_,?_⟩) ?_⟩
  ·rw [gro_foot hne]; exact putCells_fr (p:=⟨r.1,o+r.2.1,none⟩) us 0 w
  ·rw [hls,Nat.add_zero,splice_drop hcl (by omega),show o+r.2.1-r.2.1=o by omega,splice_take (by omega) (by simp; omega),hcs]
  ·rw [hls,Nat.add_zero,splice_length hcl]; exact hroom
  ·rw [gro_foot hne,gro_foot hne2]; exact fun _ h=>.inl h
variable {α:Type} {g:α→List Value} {sz:Nat}
theorem rowsC_splice (h:RowOk g sz) {xs ys:List α} {k:Nat}:splice (rowsC g xs) (k*sz) (rowsC g ys)=rowsC g (xs.take k++ys++xs.drop (k+ys.length)):=by
 rw [splice,rowsC_length h,← Nat.add_mul,rowsC_take h,rowsC_drop h,rowsC_append,rowsC_append]
theorem lcells_rows {b k m:Nat} {xs:List α} (h:RowOk g sz) (hb:L[b]?=some (.gro sz (rowsC g xs))) (hm:k+m≤xs.length) (hz:0<sz) (hm0:0<m):lcells L ⟨b,k*sz,none⟩ (m*sz)=some (rowsC g ((xs.drop k).take m)):=by
 have:=lslc_rows (L:=L) (c:=m) h hb (rfl:k*sz=k*sz) hm hz
 cases m with
 | zero=>omega
 | succ m=>simpa [lslc] using this
def cpyT (P:Program) (dT:TypeId):Option Nat :=
 match elemOf P dT with
 | some (_,i,_)=>some i.size
 | none=>none
theorem form_slice {E:Emb} {a:Option Addr} {n c:Nat} {v:Value} (hv:VR E (.slice a n c) v):∃ a' c',v=.slice a' n c':=by
 cases a with
 | none=>cases hv; exact ⟨_,_,rfl⟩
 | some a=>rcases a with ⟨b,o,_ | s⟩ <;> first | (rcases hv with hv | ⟨rfl,rfl,_,hv⟩ <;> exact ⟨_,_,hv⟩) | (obtain ⟨_,r,_,⟨a',c',rfl,_⟩ | ⟨rfl,_,_,rfl⟩⟩:=hv <;> exact ⟨_,_,rfl⟩)
theorem EW.copyg {o:Oper} {x y:Operand} {dT sT:TypeId} {b i dn dc bx j sn sc:Nat} {xs ys:List α} (h:RowOk g sz) (ho:o.op=.call ⟨.builtin .copy,⟨[x,y]⟩,⟨[dT,sT]⟩⟩) (ht:cpyT P dT=some sz)
  (hx:lv l x=some (.slice (some ⟨b,i*sz,none⟩) dn dc)) (hy:lv l y=some (.slice (some ⟨bx,j*sz,none⟩) sn sc)) (hb:L[b]?=some (.gro sz (rowsC g xs))) (hbx:L[bx]?=some (.gro sz (rowsC g ys)))
  (hd:i+dn≤xs.length) (hs:j+sn≤ys.length) (hz:0<sz) :
  EW P n0 L l (.raw o) (fun v K=>v=.int .i64 (min sn dn:Nat)∧K=L.set b (.gro sz (rowsC g (xs.take i++(ys.drop j).take (min sn dn)++xs.drop (i+min sn dn))))):=by
 intro X w0 E0 w E l' Kf h0 hE hR hl hK
 unfold cpyT at ht
 split at ht
 rotate_left
 ·cases ht
 rename_i e ie z he
 cases ht
 obtain ⟨hu,hi,_⟩:=elemOf_ok he
 obtain ⟨vd',h1,h2⟩:=lv_ev hl hx
 obtain ⟨vs',h3,h4⟩:=lv_ev hl hy
 obtain ⟨d,op,ty,pos,af,gg⟩:=o
 simp only at ho
 subst ho
 obtain ⟨base',dc',rfl⟩:=form_slice h2
 obtain ⟨sb',sc',rfl⟩:=form_slice h4
 refine copy_any (ty:=ty) hu hi h1 h3 (fun hm=>?_) (fun hp=>?_)
 ·refine hK w E _ _ _ ⟨rfl,rfl⟩ (Ext.refl E) ?_ (by rw [hm]; rfl)
  rw [hm]
  have e:xs.take i++(ys.drop j).take 0++xs.drop (i+0)=xs:=by simp
  rw [e,set_self hb]
  exact hR
 ·have hdn:dn≠0:=by omega
  have hsn:sn≠0:=by omega
  obtain ⟨_,r,hr,⟨a1,c1,e1,hcase⟩ | ⟨hz0,_⟩⟩:=h2
  rotate_left
  ·exact absurd hz0 hdn
  rcases hcase with ⟨rfl,rfl⟩ | ⟨hz0,_⟩
  rotate_left
  ·exact absurd hz0 hdn
  cases e1
  obtain ⟨hsp,q,hq,⟨a2,c2,e2,hcase⟩ | ⟨hz0,_⟩⟩:=h4
  rotate_left
  ·exact absurd hz0 hsn
  rcases hcase with ⟨rfl,rfl⟩ | ⟨hz0,_⟩
  rotate_left
  ·exact absurd hz0 hsn
  cases e2
  have hcs:=lcells_rows (L:=L) (k:=j) (m:=min sn dn) h hbx (by omega) hz hp
  obtain ⟨ss,us,hS,_,hsl,hus,hL,hul⟩:=lcells_ok hR (a:=⟨bx,j*ie.size,none⟩) (a':=⟨q.1,j*ie.size+q.2.1,none⟩) ⟨hsp,q,hq,rfl⟩ hcs
  simp only at hS hsl hus
  have hst:=rowsC_still h ((ys.drop j).take (min sn dn))
  have hue:us=rowsC g ((ys.drop j).take (min sn dn)):=L2.eq_still hst hL
  have hlen:us.length=min sn dn*ie.size:=hul
  have hle:(i+min sn dn)*ie.size≤xs.length*ie.size:=Nat.mul_le_mul_right _ (by omega)
  rw [Nat.add_mul] at hle
  have hpos:0<min sn dn*ie.size:=Nat.mul_pos hp hz
  obtain ⟨cs,hB,hcl,hR'⟩:=hR.putg (o:=i*ie.size) (us:=us) hb hr (by rw [hue]; exact hst) (by rw [hlen,rowsC_length h]; exact hle) (by omega)
  refine ⟨_,_,_,_,cs,ss,rfl,rfl,hB,hS,by rw [← hlen]; exact hcl,hsl,fun u hu=>?_,hK _ E _ _ _ ⟨rfl,rfl⟩ (Ext.refl E) ?_ rfl⟩
  ·rw [← hus] at hu
   obtain ⟨u0,_,h5⟩:=hL.mem u hu
   exact h5.one.2
  ·rw [← hus]
   have e:=rowsC_splice h (xs:=xs) (ys:=(ys.drop j).take (min sn dn)) (k:=i)
   rw [hue] at hR'
   rw [e] at hR'
   have e2:((ys.drop j).take (min sn dn)).length=min sn dn:=by simp; omega
   rw [e2] at hR'
   rw [hue]
   exact hR'
def clrT (P:Program) (dT:TypeId):Option (Nat × List Value) :=
 match elemOf P dT with
 | some (_,i,z)=>bif Nat.blt 0 z.cells.toList.length && Nat.beq z.cells.toList.length i.size && z.cells.toList.all stillS then some (i.size,z.cells.toList) else none
 | none=>none
theorem EW.clearg {o:Oper} {x:Operand} {dT:TypeId} {b i dn dc:Nat} {xs:List α} {zs:List Value} {z0:α} (h:RowOk g sz) (ho:o.op=.call ⟨.builtin .clear,⟨[x]⟩,⟨[dT]⟩⟩) (ht:clrT P dT=some (sz,zs)) (hg0:g z0=zs)
  (hx:lv l x=some (.slice (some ⟨b,i*sz,none⟩) dn dc)) (hb:L[b]?=some (.gro sz (rowsC g xs))) (hd:i+dn≤xs.length) :
  EW P n0 L l (.raw o) (fun v K=>v=.tuple #[]∧K=L.set b (.gro sz (rowsC g (xs.take i++List.replicate dn z0++xs.drop (i+dn))))):=by
 intro X w0 E0 w E l' Kf h0 hE hR hl hK
 unfold clrT at ht
 split at ht
 rotate_left
 ·cases ht
 rename_i e ie z he
 cases hc:(Nat.blt 0 z.cells.toList.length && Nat.beq z.cells.toList.length ie.size && z.cells.toList.all stillS)
 ·rw [hc] at ht; cases ht
 rw [hc] at ht; cases ht
 simp only [Bool.and_eq_true] at hc
 obtain ⟨hu,hi,hzz⟩:=elemOf_ok he
 have hzp:0<z.cells.toList.length:=Nat.le_of_ble_eq_true hc.1.1
 have hzl:=Nat.eq_of_beq_eq_true hc.1.2
 have hzsz:z.cells.size=ie.size:=by simpa using hzl
 obtain ⟨vd',h1,h2⟩:=lv_ev hl hx
 obtain ⟨d,op,ty,pos,af,gg⟩:=o
 simp only at ho
 subst ho
 obtain ⟨base',dc',rfl⟩:=form_slice h2
 have hone:∀ u∈z.cells.toList,one u=true:=fun u hu=>(SR.still (E:=E) (List.all_eq_true.1 hc.2 u hu)).one.1
 refine clear_any (ty:=ty) hu hi hzz (by simpa using hzp) hone h1 (fun hm=>?_) (fun hp=>?_)
 ·subst hm
  refine hK w E _ _ _ ⟨rfl,rfl⟩ (Ext.refl E) ?_ ⟨[],rfl,trivial⟩
  have e:xs.take i++List.replicate 0 z0++xs.drop (i+0)=xs:=by simp
  rw [e,set_self hb]
  exact hR
 ·obtain ⟨_,r,hr,⟨a1,c1,e1,hcase⟩ | ⟨hz0,_⟩⟩:=h2
  rotate_left
  ·exact absurd hz0 (by omega)
  rcases hcase with ⟨rfl,rfl⟩ | ⟨hz0,_⟩
  rotate_left
  ·exact absurd hz0 (by omega)
  cases e1
  have hrows:repC dn z.cells.toList=rowsC g (List.replicate dn z0):=by rw [← hg0]; exact repC_rows z0 dn
  have hst:=rowsC_still h (List.replicate dn z0)
  have hlen:(repC dn z.cells.toList).length=dn*ie.size:=by rw [hrows,rowsC_length h,List.length_replicate]
  have hle:(i+dn)*ie.size≤xs.length*ie.size:=Nat.mul_le_mul_right _ hd
  rw [Nat.add_mul] at hle
  have hpos:0<dn*ie.size:=Nat.mul_pos hp (by omega)
  obtain ⟨cs,hB,hcl,hR'⟩:=hR.putg (o:=i*ie.size) (us:=repC dn z.cells.toList) hb hr (by rw [hrows]; exact hst) (by rw [hlen,rowsC_length h]; exact hle) (by omega)
  refine ⟨_,_,cs,rfl,hB,by rw [hzsz,← hlen]; exact hcl,hK _ E _ _ _ ⟨rfl,rfl⟩ (Ext.refl E) ?_ ⟨[],rfl,trivial⟩⟩
  rw [hrows] at hR' ⊢
  have e:=rowsC_splice h (xs:=xs) (ys:=List.replicate dn z0) (k:=i)
  rw [e] at hR'
  rw [List.length_replicate] at hR'
  exact hR'
end
end Go.Tum
end
section
namespace Go.Tum
open Go
def bytesS (bs:List (BitVec 8)):ByteArray:=⟨(bs.map fun b=>UInt8.ofNat b.toNat).toArray⟩
theorem ofNat_toNat_inj {a b:BitVec 8} (h:UInt8.ofNat a.toNat=UInt8.ofNat b.toNat):a=b:=by
 have h1:=congrArg UInt8.toNat h
 simp only [UInt8.toNat_ofNat'] at h1
 rw [Nat.mod_eq_of_lt a.isLt,Nat.mod_eq_of_lt b.isLt] at h1
 exact BitVec.eq_of_toNat_eq h1
theorem bytesS_inj {a b:List (BitVec 8)} (h:bytesS a=bytesS b):a=b:=by
 unfold bytesS at h
 injection h with h
 have h2:a.map (fun b=>UInt8.ofNat b.toNat)=b.map fun b=>UInt8.ofNat b.toNat:=by
  have:=congrArg Array.toList h
  simpa using this
 clear h
 induction a generalizing b with
 | nil=>cases b with
  | nil=>rfl
  | cons=>simp at h2
 | cons x r ih=>cases b with
  | nil=>simp at h2
  | cons y s =>
   simp only [List.map_cons,List.cons.injEq] at h2
   rw [ofNat_toNat_inj h2.1,ih h2.2]
theorem bytesS_eq (a b:List (BitVec 8)):(bytesS a == bytesS b)=decide (a=b):=by
 have e:(bytesS a == bytesS b)=((bytesS a).data == (bytesS b).data):=rfl
 rw [e,Bool.eq_iff_iff,beq_iff_eq,decide_eq_true_eq]
 exact ⟨fun h=>bytesS_inj (by cases hx:bytesS a; cases hy:bytesS b; rw [hx,hy] at h; simp only at h; rw [h]),fun h=>by rw [h]⟩
section
variable {P:Program} {w:World}
theorem str_loop {f:Value→ByteArray→Sem (ForInStep ByteArray)} (hf:∀ (n:Int) (s:ByteArray),f (.int .u8 n) s=pure (ForInStep.yield (s.push (UInt8.ofNat n.toNat)))) (bs:List (BitVec 8)):∀ s:ByteArray,(forIn (bs.map fun b=>Value.int .u8 (b.toNat:Int)) s f).run P w=.ok (⟨s.data++(bs.map fun b=>UInt8.ofNat b.toNat).toArray⟩) w:=by
 induction bs with
 | nil=>intro s; simp
 | cons b r ih =>
  intro s
  simp only [List.map_cons,List.forIn_cons,hf,Sem.run_bind,Sem.run_pure,Result.andThen_ok]
  rw [ih]
  congr 2
  simp [ByteArray.push]
theorem bytesToString_run {a:Addr} {n c:Nat} {bs:List (BitVec 8)} (h:(loadCells a n).run P w=.ok (bs.map fun b=>Value.int .u8 (b.toNat:Int)).toArray w):(Conv.bytesToString (.slice (some a) n c)).run P w=.ok (.string (bytesS bs)) w:=by
 unfold Conv.bytesToString
 simp only [Sem.run_bind,h,Result.andThen_ok,List.forIn_toArray,Sem.run_pure]
 rw [str_loop (fun _ _=>rfl) bs]
 simp [bytesS,ByteArray.empty,ByteArray.emptyWithCapacity]
 rfl
end
theorem byteC_map (bs:List (BitVec 8)):rowsC byteC bs=bs.map fun b=>Value.int .u8 (b.toNat:Int):=by
 induction bs with
 | nil=>rfl
 | cons x r ih=>simp only [rowsC,byteC,ih,List.map_cons]; rfl
section
variable {P:Program} {n0:NA} {l:Env} {L:LH}
def strT (P:Program) (src dst:TypeId):Bool:=match P.underlying src,P.underlying dst with
 | some (.slice e),some .string=>match P.underlying e with
  | some (.int .u8)=>true
  | _=>false
 | _,_=>false
theorem QY.str {o:Oper} {src dst:TypeId} {x:Operand} {b i m c:Nat} {ys:List (BitVec 8)} (ho:o.op=.convert src dst x) (ht:strT P src dst=true) (hx:lv l x=some (.slice (some ⟨b,i*1,none⟩) m c)) (hb:L[b]?=some (.gro 1 (rowsC byteC ys))) (hm:i+m≤ys.length) :
  QY P n0 L l (.raw o) (.string (bytesS ((ys.drop i).take m))):=by
 intro X w0 E0 w E l' _ hE hR hl
 unfold strT at ht
 split at ht
 rotate_left
 ·cases ht
 rename_i e hs hd
 split at ht
 rotate_left
 ·cases ht
 rename_i he
 obtain ⟨vx,h1,h2⟩:=lv_ev hl hx
 obtain ⟨d,op,ty,pos,af,g⟩:=o
 simp only at ho
 subst ho
 have key:∀ w1:World,Sim w1 w→(convert src dst vx).run P w1=.ok (.string (bytesS ((ys.drop i).take m))) w1:=by
  intro w1 hs1
  obtain ⟨_,r,hr,⟨a',c',rfl,hcase⟩ | ⟨rfl,_,a',rfl⟩⟩:=h2
  ·simp only [convert,Sem.run_bind,run_underlying hs,run_underlying hd,run_underlying he,Result.andThen_ok]
   refine bytesToString_run ?_
   rcases Nat.eq_zero_or_pos m with rfl | hm0
   ·simp [loadCells_none]
   ·rcases hcase with ⟨rfl,_⟩ | ⟨h0,_⟩
    rotate_left
    ·omega
    have hcs:=lcells_rows (L:=L) (k:=i) (m:=m) byteC_ok hb hm (by omega) hm0
    obtain ⟨ss,us,hS,_,hsl,hus,hL,hul⟩:=lcells_ok hR (a:=⟨b,i*1,none⟩) (a':=⟨r.1,i*1+r.2.1,none⟩) ⟨rfl,r,hr,rfl⟩ hcs
    have hue:us=_:=L2.eq_still (rowsC_still byteC_ok _) hL
    simp only at hS hsl hus
    simp only [Nat.mul_one] at hsl hus hS ⊢
    rw [loadCells_blk (hS.sim hs1) (o:=i+r.2.1) (n:=m) hsl,← hus,hue,byteC_map]
  ·simp only [convert,Sem.run_bind,run_underlying hs,run_underlying hd,run_underlying he,Result.andThen_ok]
   cases a' with
   | none=>simp [Conv.bytesToString,bytesS]; rfl
   | some a' =>
    refine bytesToString_run ?_
    simp [loadCells_none]
 refine ⟨_,fun ρ w1 ha hs1=>?_,rfl⟩
 simp only [execOp,ha x _ h1,Sem.run_bind,key w1 hs1]
 rfl
theorem QY.slc0 {x:Operand} {lo hi:Option Operand} {size b n c lo' hi':Nat} (hx:lv l x=some (.slice (some ⟨b,0,none⟩) n c)) (h1:lbound l lo 0=some lo') (h2:lbound l hi n=some hi') (h3:lo'≤hi') (h4:hi'≤c) :
  QY P n0 L l (.slc x lo hi size) (.slice (some ⟨b,lo'*size,none⟩) (hi'-lo') (c-lo')):=by
 have:=QY.slc (P:=P) (n0:=n0) (L:=L) (size:=size) hx h1 h2 h3 h4
 rwa [Nat.zero_add] at this
theorem QY.idxO {x i:Operand} {b o n c k sz:Nat} {kd:IntKind} (hx:lv l x=some (.slice (some ⟨b,o,none⟩) n c)) (hi:lv l i=some (.int kd (k:Int))) (h1:k<n):QY P n0 L l (.idx x i sz) (.pointer (some ⟨b,o+k*sz,none⟩)):=by
 have:=QY.idx (P:=P) (n0:=n0) (L:=L) (size:=sz) hx hi (by omega) (by omega)
 simpa using this
variable {K:Env→LH→Prop} {T T1:Taken} {ss r:List Step} {l1:Env} {L1:LH} {k:Nat} {d:Option Nat} {g:Option (Nat × Bool)} {op:QOp} {rd:Bool}
def QY2 (P:Program) (n0:NA) (L:LH) (l:Env) (q:QOp) (v u:Value):Prop :=
 ∀ (X:Nat→Prop) (w0:World) (E0:Emb) (w:World) (E:Emb) (l':Env),n0.Ok P X w0 E0→n0.Ext E0 E→Rep X w0 E L w→ER E l l'→∃ v',q.Y P l' v' w∧(VR E v v'∨VR E u v')
theorem S_Q2 {v u:Value} (st:List Nat) (h:arun st ss l T L=(.q k d g op rd::r,l1,T1,L1)) (hg:gw g l1=some true) (hy:QY2 P n0 L1 l1 op v u) (h1:LSt P n0 r K (dpush d v l1) (bif rd then (k,op,l1,v)::T1 else T1) L1) (h2:LSt P n0 r K (dpush d u l1) (bif rd then (k,op,l1,u)::T1 else T1) L1):LSt P n0 ss K l T L:=by
 refine arun_ok st ss l T L h ?_
 refine ⟨fun X w0 E0 w E l' F h0 hE hR hl hT=>?_⟩
 simp only [stepsWp]
 refine gw_ok hl hg (fun _=>?_) (fun e=>by cases e)
 obtain ⟨v',e1,e2⟩:=hy X w0 E0 w E l' h0 hE hR hl
 refine ⟨v',e1,?_⟩
 rcases e2 with e2 | e2
 ·cases rd
  ·exact h1.go X w0 E0 w E _ _ h0 hE hR (hl.dpush e2 d) hT
  ·exact h1.go X w0 E0 w E _ _ h0 hE hR (hl.dpush e2 d) ⟨rfl,⟨l',v',rfl,hl,e2⟩,hT⟩
 ·cases rd
  ·exact h2.go X w0 E0 w E _ _ h0 hE hR (hl.dpush e2 d) hT
  ·exact h2.go X w0 E0 w E _ _ h0 hE hR (hl.dpush e2 d) ⟨rfl,⟨l',v',rfl,hl,e2⟩,hT⟩
def sliceT (P:Program) (t:TypeId):Bool:=match P.underlying t with
 | some (.slice _)=>true
 | _=>false
theorem nil_run {t:TypeId} {a:Option Addr} {n c:Nat} {w:World} (ht:sliceT P t=true):(Op.equal t (.slice a n c) (.slice none 0 0)).run P w=.ok a.isNone w:=by
 unfold sliceT at ht
 split at ht
 ·rename_i e hu
  unfold Op.equal Op.maxDepth
  unfold Op.equalIn
  simp only [Sem.run_bind,run_underlying hu,Result.andThen_ok]
  cases a <;> rfl
 ·cases ht
theorem QY.nilS {o:Oper} {t ty:TypeId} {x:Operand} {b off n c:Nat} (ho:o.op=.binOp .eql t x (.const (.slice none 0 0)) ty) (ht:sliceT P t=true) (hx:lv l x=some (.slice (some ⟨b,off,none⟩) n c)) (hn:0<n):QY P n0 L l (.raw o) (.bool false):=by
 intro X w0 E0 w E l' _ hE hR hl
 obtain ⟨vx,h1,h2⟩:=lv_ev hl hx
 obtain ⟨_,r,hr,⟨a',c',rfl,_⟩ | ⟨h0,_⟩⟩:=h2
 rotate_left
 ·omega
 obtain ⟨d,op,ty',pos,af,g⟩:=o
 simp only at ho
 subst ho
 refine ⟨_,fun ρ w1 ha hs1=>?_,rfl⟩
 have hc:ρ (.const (.slice none 0 0))=.slice none 0 0:=ha _ _ rfl
 simp [execOp,ha x _ h1,hc,eqGuard,binOp,nil_run ht]
theorem QY.nilS2 {o:Oper} {t ty:TypeId} {x:Operand} {b off n c:Nat} (ho:o.op=.binOp .eql t x (.const (.slice none 0 0)) ty) (ht:sliceT P t=true) (hx:lv l x=some (.slice (some ⟨b,off,none⟩) n c)):QY2 P n0 L l (.raw o) (.bool true) (.bool false):=by
 intro X w0 E0 w E l' _ hE hR hl
 obtain ⟨vx,h1,h2⟩:=lv_ev hl hx
 obtain ⟨a',c',rfl⟩:=form_slice h2
 obtain ⟨d,op,ty',pos,af,g⟩:=o
 simp only at ho
 subst ho
 refine ⟨.bool a'.isNone,fun ρ w1 ha hs1=>?_,?_⟩
 ·have hc:ρ (.const (.slice none 0 0))=.slice none 0 0:=ha _ _ rfl
  simp [execOp,ha x _ h1,hc,eqGuard,binOp,nil_run ht]
 ·cases a'
  ·exact .inl rfl
  ·exact .inr rfl
end
end Go.Tum
end
section
namespace Go.Tum
open Go
section
variable {P:Program} {n0:NA} {l:Env} {L:LH}
variable {α:Type} {g:α→List Value} {sz:Nat}
def takeA {α:Type} (op:Nat→α) (n:Nat):List α:=(List.range n).map op
theorem takeA_length {α:Type} (op:Nat→α) (n:Nat):(takeA op n).length=n:=by simp [takeA]
end
end Go.Tum
end
section
namespace Go.Tum
open Go
section
variable {P:Program} {n0:NA} {K:Env→LH→Prop} {l:Env} {L:LH} {T:Taken}
variable {k:Nat} {d:Option Nat} {g:Option (Nat × Bool)} {op:QOp} {eo:EOp} {rd:Bool} {r:PT} {pend:List Nat} {v:Value}
theorem P_alt {a b:PT} (ha:LPt P n0 a K l T L) (hb:LPt P n0 b K l T L):LPt P n0 (.alt a b) K l T L :=
 fun X w0 E0 w E l' F h0 hE hR hl hT=>⟨ha X w0 E0 w E l' F h0 hE hR hl hT,hb X w0 E0 w E l' F h0 hE hR hl hT⟩
theorem P_q (hg:gw g l=some true) (hy:QY P n0 L l op v) (h:LPt P n0 r K (dpush d v l) (bif rd then (k,op,l,v)::T else T) L):LPt P n0 (.q k d g op rd r) K l T L:=by
 intro X w0 E0 w E l' F h0 hE hR hl hT
 simp only [ptWp]
 refine gw_ok hl hg (fun _=>?_) (fun e=>by cases e)
 obtain ⟨v',h1,h2⟩:=hy X w0 E0 w E l' h0 hE hR hl
 refine ⟨v',h1,?_⟩
 cases rd
 ·exact h X w0 E0 w E _ _ h0 hE hR (hl.dpush h2 d) hT
 ·exact h X w0 E0 w E _ _ h0 hE hR (hl.dpush h2 d) ⟨rfl,⟨l',v',rfl,hl,h2⟩,hT⟩
theorem P_e {R:Value→LH→Prop} (hg:gw g l=some true) (hw:EW P n0 L l eo R) (h:∀ v L',R v L'→chkP P n0 T L' pend∧LPt P n0 r K (dpush d v l) T L'):LPt P n0 (.e d g eo pend r) K l T L:=by
 intro X w0 E0 w E l' F h0 hE hR hl hT
 simp only [ptWp]
 refine gw_ok hl hg (fun _=>?_) (fun e=>by cases e)
 refine hw X w0 E0 w E l' _ h0 hE hR hl fun w' E' v' v L' hr h1 h2 h3=>?_
 obtain ⟨hc,hn⟩:=h v L' hr
 exact ⟨chkP_ok h0 (hE.trans h1) h2 (hT.ext h1) _ hc,hn X w0 E0 w' E' _ _ h0 (hE.trans h1) h2 ((hl.ext h1).dpush h3 d) (hT.ext h1)⟩
theorem P_qno (hg:gw g l=some false) (h:LPt P n0 r K (dpush d undef l) T L):LPt P n0 (.q k d g op rd r) K l T L:=by
 intro X w0 E0 w E l' F h0 hE hR hl hT
 simp only [ptWp]
 exact gw_ok hl hg (fun e=>by cases e) (fun _=>h X w0 E0 w E _ _ h0 hE hR (hl.dpush VR.undef d) hT)
theorem P_eno (hg:gw g l=some false) (h:LPt P n0 r K (dpush d undef l) T L):LPt P n0 (.e d g eo pend r) K l T L:=by
 intro X w0 E0 w E l' F h0 hE hR hl hT
 simp only [ptWp]
 exact gw_ok hl hg (fun e=>by cases e) (fun _=>h X w0 E0 w E _ _ h0 hE hR (hl.dpush VR.undef d) hT)
theorem P_ed {fr dr:List Nat} {R:Value→LH→Prop} (hg:gw g l=some true) (hw:EWd P n0 fr dr L l eo R) (hd:disj dr n0.keep=true) (hn:nmE dr l=true) (ht:nmT dr T=true) (h:∀ v L',R v L'→chkG P n0 fr T L L' pend∧LPt P n0 r K (dpush d v l) T L'):LPt P n0 (.e d g eo pend r) K l T L:=by
 intro X w0 E0 w E l' F h0 hE hR hl hT
 simp only [ptWp]
 refine gw_ok hl hg (fun _=>?_) (fun e=>by cases e)
 refine hw X w0 E0 w E l' _ h0 hE hR hl fun w' E' v' v L' hr h1 hL h2 h3=>?_
 obtain ⟨hc,hn'⟩:=h v L' hr
 have hE':n0.Ext E0 E':=fun k r hk hr=>h1 k r (disj_ok hd hk) (hE k r hk hr)
 exact ⟨chkG_ok h0 hE' hL h2 hT (hT.extD h1 ht) _ hc,hn' X w0 E0 w' E' _ _ h0 hE' h2 ((hl.extD h1 hn).dpush h3 d) (hT.extD h1 ht)⟩
def lin:PT→Option (List Step)
 | .done=>some []
 | .q k d g op rd r=>match lin r with
  | some s=>some (.q k d g op rd::s)
  | none=>none
 | .e d g op pend r=>match lin r with
  | some s=>some (.e d g op pend::s)
  | none=>none
 | .alt _ _=>none
theorem lin_wp:∀ {t:PT} {ss:List Step},lin t=some ss→∀ {K:Env→World→Prop} {l:Env} {F:Facts} {w:World},stepsWp P ss K l F w→ptWp P t K l F w
 | .done,ss,h,K,l,F,w,hs=>by cases h; exact hs
 | .q k d g op rd r,ss,h,K,l,F,w,hs=>by
  simp only [lin] at h
  split at h <;> first | (cases h; done) | skip
  rename_i s hr
  cases h
  simp only [ptWp,stepsWp] at hs ⊢
  exact gcase_mono (fun _ ⟨v,a,b⟩=>⟨v,a,lin_wp hr b⟩) (fun _ a=>lin_wp hr a) hs
 | .e d g op pend r,ss,h,K,l,F,w,hs=>by
  simp only [lin] at h
  split at h <;> first | (cases h; done) | skip
  rename_i s hr
  cases h
  simp only [ptWp,stepsWp] at hs ⊢
  exact gcase_mono (fun _ a=>EOp.W_mono (fun v w' ⟨b,c⟩=>⟨b,lin_wp hr c⟩) a) (fun _ a=>lin_wp hr a) hs
 | .alt _ _,ss,h,_,_,_,_,_=>by cases h
theorem P_lin {t:PT} {ss:List Step} (h:lin t=some ss) (hs:LSt P n0 ss K l T L):LPt P n0 t K l T L:=fun X w0 E0 w E l' F h0 hE hR hl hT=>lin_wp h (hs.go X w0 E0 w E l' F h0 hE hR hl hT)
def aprun (st:List Nat):PT→Env→Taken→LH→PT × Env × Taken × LH
 | .q k d g op rd r,l,T,L=>match gsafe st g l with
  | some true=>match qsafe st L l op with
   | some v=>match rd with
    | true=>aprun st r (dpush d v l) ((k,op,l,v)::T) L
    | false=>aprun st r (dpush d v l) T L
   | none=>(.q k d g op rd r,l,T,L)
  | some false=>aprun st r (dpush d undef l) T L
  | none=>(.q k d g op rd r,l,T,L)
 | .e d g op pend r,l,T,L=>match gsafe st g l with
  | some true=>match pend with
   | []=>match esafe L l op with
    | some (v,L')=>aprun st r (dpush d v l) T L'
    | none=>(.e d g op pend r,l,T,L)
   | _::_=>(.e d g op pend r,l,T,L)
  | some false=>aprun st r (dpush d undef l) T L
  | none=>(.e d g op pend r,l,T,L)
 | .done,l,T,L=>(.done,l,T,L)
 | .alt a b,l,T,L=>(.alt a b,l,T,L)
theorem aprun_ok (st:List Nat):∀ (t:PT) (l:Env) (T:Taken) (L:LH) {t1:PT} {l1:Env} {T1:Taken} {L1:LH},aprun st t l T L=(t1,l1,T1,L1)→LPt P n0 t1 K l1 T1 L1→LPt P n0 t K l T L
 | .done,l,T,L,_,_,_,_,h,k=>by cases h; exact k
 | .alt _ _,l,T,L,_,_,_,_,h,k=>by cases h; exact k
 | .q k d g op rd r,l,T,L,_,_,_,_,h,hk=>by
  simp only [aprun] at h
  split at h
  ·rename_i hg
   split at h
   ·rename_i v hv
    split at h
    ·exact P_q (gsafe_ok hg) (qsafe_ok hv) (aprun_ok st r _ _ L h hk)
    ·exact P_q (gsafe_ok hg) (qsafe_ok hv) (aprun_ok st r _ _ L h hk)
   ·cases h; exact hk
  ·rename_i hg; exact P_qno (gsafe_ok hg) (aprun_ok st r _ _ L h hk)
  ·cases h; exact hk
 | .e d g op pend r,l,T,L,_,_,_,_,h,hk=>by
  simp only [aprun] at h
  split at h
  ·rename_i hg
   split at h
   ·split at h
    ·rename_i v L' hv
     exact P_e (gsafe_ok hg) (esafe_ok hv) fun v L' ⟨e1,e2⟩=>by subst e1; subst e2; exact ⟨trivial,aprun_ok st r _ _ _ h hk⟩
    ·cases h; exact hk
   ·cases h; exact hk
  ·rename_i hg; exact P_eno (gsafe_ok hg) (aprun_ok st r _ _ L h hk)
  ·cases h; exact hk
variable {t:PT} {l1:Env} {T1:Taken} {L1:LH} {a b:PT}
theorem P_A (st:List Nat) (h:aprun st t l T L=(.alt a b,l1,T1,L1)) (ha:LPt P n0 a K l1 T1 L1) (hb:LPt P n0 b K l1 T1 L1):LPt P n0 t K l T L:=aprun_ok st t l T L h (P_alt ha hb)
theorem P_Q (st:List Nat) (h:aprun st t l T L=(.q k d g op rd r,l1,T1,L1)) (hg:gw g l1=some true) (hy:QY P n0 L1 l1 op v) (hn:LPt P n0 r K (dpush d v l1) (bif rd then (k,op,l1,v)::T1 else T1) L1):LPt P n0 t K l T L :=
 aprun_ok st t l T L h (P_q hg hy hn)
theorem P_Ed (st:List Nat) {fr dr:List Nat} {R:Value→LH→Prop} (h:aprun st t l T L=(.e d g eo pend r,l1,T1,L1)) (hg:gw g l1=some true) (hw:EWd P n0 fr dr L1 l1 eo R) (hd:disj dr n0.keep=true) (hn:nmE dr l1=true) (ht:nmT dr T1=true) (hk:∀ v L',R v L'→chkG P n0 fr T1 L1 L' pend∧LPt P n0 r K (dpush d v l1) T1 L'):LPt P n0 t K l T L :=
 aprun_ok st t l T L h (P_ed hg hw hd hn ht hk)
theorem LPt.nf (h:nE l fun l=>nL L fun L=>LPt P n0 t K l T L):LPt P n0 t K l T L:=by rw [nE_eq,nL_eq] at h; exact h
end
end Go.Tum
end
section
namespace Go.Tum
open Go
def jfind:List Nat→LH→Nat→LB→LB
 | j::φ,x::xs,k,d=>match Nat.beq j k with
  | true=>x
  | false=>jfind φ xs k d
 | _,_,_,d=>d
def jgo (φ:List Nat) (xs:LH):Nat→LH→LH
 | _,[]=>[]
 | i,y::r=>jfind φ xs i y::jgo φ xs (i+1) r
theorem jgo_get (φ:List Nat) (xs:LH):∀ (M:LH) (i k:Nat),(jgo φ xs i M)[k]?=(M[k]?).map (jfind φ xs (i+k))
 | [],i,k=>by simp [jgo]
 | y::r,i,0=>by simp [jgo]
 | y::r,i,k+1=>by
  rw [jgo,List.getElem?_cons_succ,List.getElem?_cons_succ,jgo_get φ xs r (i+1) k,show i+1+k=i+(k+1) by omega]
theorem jfind_no:∀ (φ:List Nat) (xs:LH) (k:Nat) (d:LB),k∉φ→jfind φ xs k d=d
 | [],_,_,_,_=>rfl
 | _::_,[],_,_,_=>rfl
 | j::φ,x::xs,k,d,h=>by
  simp only [List.mem_cons,not_or] at h
  have:Nat.beq j k=false:=by
   cases hb:Nat.beq j k
   ·rfl
   ·exact absurd (Nat.eq_of_beq_eq_true hb).symm h.1
  rw [jfind,this]
  exact jfind_no φ xs k d h.2
theorem jset_get:∀ (φ:List Nat) (M xs:LH) (k:Nat),φ.Nodup→(jset M φ xs)[k]?=(M[k]?).map (jfind φ xs k)
 | [],M,xs,k,_=>by simp only [jset]; cases M[k]? <;> rfl
 | j::φ,M,[],k,_=>by simp only [jset]; cases M[k]? <;> rfl
 | j::φ,M,x::xs,k,hn=>by
  have hn:=List.nodup_cons.1 hn
  rw [jset,jset_get φ (M.set j x) xs k hn.2,List.getElem?_set]
  by_cases e:j=k
  ·subst e
   rw [if_pos rfl]
   have h1:∀ d,jfind (j::φ) (x::xs) j d=x:=fun d=>by rw [jfind,Nat.beq_refl]
   by_cases hl:j<M.length
   ·rw [if_pos hl,List.getElem?_eq_getElem hl,Option.map_some,Option.map_some,h1,jfind_no φ xs j x hn.1]
   ·rw [if_neg hl,List.getElem?_eq_none (by omega)]; rfl
  ·rw [if_neg e]
   have:Nat.beq j k=false:=by
    cases hb:Nat.beq j k
    ·rfl
    ·exact absurd (Nat.eq_of_beq_eq_true hb) e
   have h1:jfind (j::φ) (x::xs) k=jfind φ xs k:=by funext d; rw [jfind,this]
   rw [h1]
def joinQ (φ:List Nat) (M L1:LH):LH :=
 jgo φ ((L1.take φ.length).map (rnB (M.length+L1.length) (phi2 φ M.length L1))) 0 M++(L1.drop φ.length).map (rnB (M.length+L1.length) (phi2 φ M.length L1))
theorem joinQ_eq {φ:List Nat} {M L1:LH} (h:φ.Nodup):joinL φ M L1=joinQ φ M L1:=by
 unfold joinL joinQ
 congr 1
 apply List.ext_getElem?
 intro k
 rw [jset_get _ _ _ _ h,jgo_get,Nat.zero_add]
section
variable {P:Program} {n0:NA} {Q:Exit→Env→LH→Prop} {K:Env→LH→Prop} {l l1:Env} {L L1 L2 K2 Lc:LH} {T T1:Taken} {k:Nat} {d:Option Nat} {g:Option (Nat × Bool)} {rd:Bool} {r ss ss1:List Step} {x y:Operand} {b:MC} {op:QOp} {eo:EOp} {pend:List Nat} {v v1 v2:Value}
theorem dN (hn:LWp P n0 b Q l1 L1) (h:arun [] ss l T L=([],l1,T1,L1):=by exact rfl) (hQ:Nx n0 (LWp P n0 b Q) l1 L1→K l1 L1:=by exact fun h=>h):LSt P n0 ss K l T L:=S_done [] h (hQ (Nx.goL hn))
theorem dR {res:List RV} {R:Value→LH→Prop} {us:List Value} (hr:R v L2) (h:arun [] ss l T L=([],l1,T1,L1):=by exact rfl) (hQ:RetQ n0 res R .normal l1 L1→K l1 L1:=by exact fun h=>h) (h1:lres l1 L1 res=some us:=by exact rfl) (h2:(n0.keep.all fun k=>Nat.blt k n0.n)=true:=by exact rfl) (h3:letGoV (seqN 0 n0.n) L1 (lret us)=some v:=by exact rfl) (h4:letGo (seqN 0 n0.n) L1=some L2:=by exact rfl):LSt P n0 ss K l T L:=S_done [] h (hQ (RetQ.keepN h1 h2 h3 h4 hr))
theorem d0 (hn:K l1 L1) (h:arun [] ss l T L=([],l1,T1,L1):=by exact rfl):LSt P n0 ss K l T L:=S_done [] h hn
theorem rT {res:List RV} {R:Value→LH→Prop} {us:List Value} (hr:R v L2) (hQ:RetQ n0 res R .ret l L→Q .ret l L:=by exact fun h=>h) (h1:lres l L res=some us:=by exact rfl) (h2:(n0.keep.all fun k=>Nat.blt k n0.n)=true:=by exact rfl) (h3:letGoV (seqN 0 n0.n) L (lret us)=some v:=by exact rfl) (h4:letGo (seqN 0 n0.n) L=some L2:=by exact rfl):LWp P n0 .ret Q l L:=L_ret (hQ (RetQ.keep h1 h2 h3 h4 hr))
theorem iF {c:Operand} {x y:MC} {t:Bool} {p:Prop} (ht:p→LWp P n0 x Q (knows c true l) L) (hf:¬ p→LWp P n0 y Q (knows c false l) L) (hc:lv l c=some (.bool t):=by exact rfl)
  (hp:t=true↔p:=by first|exact bD|exact bE|exact bN|exact bNB|exact bEB|exact bNot bD|exact bNot bE|exact bNot bN):LWp P n0 (.cond c x y) Q l L:=L_ifp hc hp ht hf
theorem sP (s:Nat) {t:Bool} {p:Prop} (ht:p→LSt P n0 ss1 K ((s,.bool true)::l1) T1 L1) (hf:¬ p→LSt P n0 ss1 K ((s,.bool false)::l1) T1 L1) (h0:arun [s] ss l T L=(ss1,l1,T1,L1):=by exact rfl) (hh:headGuard ss1=some s:=by exact rfl) (hb:eget l1 s=some (.bool t):=by exact rfl)
  (hp:t=true↔p:=by first|exact bD|exact bE|exact bN|exact bNB|exact bEB|exact bNot bD|exact bNot bE|exact bNot bN):LSt P n0 ss K l T L:=S_splitp s h0 hh hb hp ht hf
theorem aX {i:Operand} {b n c j sz:Nat} {kd:IntKind} (hn:LSt P n0 r K (dpush d (.pointer (some ⟨b,j*sz,none⟩)) l1) (bif rd then (k,.idx x i sz,l1,.pointer (some ⟨b,j*sz,none⟩))::T1 else T1) L1) (h:arun [] ss l T L=(.q k d g (.idx x i sz) rd::r,l1,T1,L1):=by exact rfl) (hg:gw g l1=some true:=by exact rfl)
  (hx:lv l1 x=some (.slice (some ⟨b,0,none⟩) n c):=by exact rfl) (hi:lv l1 i=some (.int kd (j:Int)):=by exact rfl) (h1:j<n:=by omega):LSt P n0 ss K l T L:=S_Q [] h hg (QY.idxN hx hi h1) hn
theorem aA {a b:Int} (hn:LSt P n0 r K (dpush d (.int .i64 (a+b)) l1) (bif rd then (k,.bin .add x y,l1,.int .i64 (a+b))::T1 else T1) L1) (h:arun [] ss l T L=(.q k d g (.bin .add x y) rd::r,l1,T1,L1):=by exact rfl) (hg:gw g l1=some true:=by exact rfl)
  (hx:lv l1 x=some (.int .i64 a):=by exact rfl) (hy:lv l1 y=some (.int .i64 b):=by exact rfl) (h0 : -9223372036854775808≤a+b:=by omega) (h1:a+b≤9223372036854775807:=by omega):LSt P n0 ss K l T L:=S_Q [] h hg (QY.add hx hy rfl h0 h1) hn
theorem aS {a b:Int} (hn:LSt P n0 r K (dpush d (.int .i64 (a-b)) l1) (bif rd then (k,.bin .sub x y,l1,.int .i64 (a-b))::T1 else T1) L1) (h:arun [] ss l T L=(.q k d g (.bin .sub x y) rd::r,l1,T1,L1):=by exact rfl) (hg:gw g l1=some true:=by exact rfl)
  (hx:lv l1 x=some (.int .i64 a):=by exact rfl) (hy:lv l1 y=some (.int .i64 b):=by exact rfl) (h0 : -9223372036854775808≤a-b:=by omega) (h1:a-b≤9223372036854775807:=by omega):LSt P n0 ss K l T L:=S_Q [] h hg (QY.sub hx hy rfl h0 h1) hn
theorem aM {a b:Int} (hn:LSt P n0 r K (dpush d (.int .i64 (a*b)) l1) (bif rd then (k,.bin .mul x y,l1,.int .i64 (a*b))::T1 else T1) L1) (h:arun [] ss l T L=(.q k d g (.bin .mul x y) rd::r,l1,T1,L1):=by exact rfl) (hg:gw g l1=some true:=by exact rfl)
  (hx:lv l1 x=some (.int .i64 a):=by exact rfl) (hy:lv l1 y=some (.int .i64 b):=by exact rfl) (h0 : -9223372036854775808≤a*b:=by omega) (h1:a*b≤9223372036854775807:=by omega):LSt P n0 ss K l T L:=S_Q [] h hg (QY.mul hx hy rfl h0 h1) hn
theorem aR {a b:Int} (hn:LSt P n0 r K (dpush d (.int .i64 (a % b)) l1) (bif rd then (k,.bin .rem x y,l1,.int .i64 (a % b))::T1 else T1) L1) (h:arun [] ss l T L=(.q k d g (.bin .rem x y) rd::r,l1,T1,L1):=by exact rfl) (hg:gw g l1=some true:=by exact rfl)
  (hx:lv l1 x=some (.int .i64 a):=by exact rfl) (hy:lv l1 y=some (.int .i64 b):=by exact rfl) (h0:0≤a:=by omega) (h1:0<b:=by omega):LSt P n0 ss K l T L:=S_Q [] h hg (QY.remN hx hy rfl h0 h1) hn
theorem aI {b j:Nat} {xs:List Int} (h:arun [] ss l T L=(.q k d g (.ld x) rd::r,l1,T1,L1):=by exact rfl) (hg:gw g l1=some true:=by exact rfl)
  (hx:lv l1 x=some (.pointer (some ⟨b,j*1,none⟩)):=by exact rfl) (hb:L1[b]?=some (.gro 1 (rowsC intC xs)):=by exact rfl) (hk:j<xs.length:=by omega)
  (hn:LSt P n0 r K (dpush d (.int .i64 xs[j]) l1) (bif rd then (k,.ld x,l1,.int .i64 xs[j])::T1 else T1) L1):LSt P n0 ss K l T L:=S_Q [] h hg (QY.ldI hx hb (List.getElem?_eq_getElem hk)) hn
theorem cP {f:FuncId} {args:List Operand} {vs us:List Value} (φ:List Nat) (ht:Tr P f us Lc (fun v K=>v=v1∧K=Lc)) (hn:LSt P n0 r K (dpush d v1 l1) T1 L1) (h:arun [] ss l T L=(.e d g (.call f args) pend::r,l1,T1,L1):=by exact rfl) (hg:gw g l1=some true:=by exact rfl)
  (hv:lvs l1 args=some vs:=by exact rfl) (he:us.map (rnV L1.length φ)=vs:=by exact rfl) (h1:φ.Nodup:=by decide) (h2:partL L1 φ φ Lc:=by repeat' (first|exact trivial|refine ⟨rfl,?_⟩ | fail)) (h3:closedL Lc=true:=by exact rfl) (h4:stillT v1=true:=by exact rfl)
  (hc:chkG P n0 φ T1 L1 L1 pend:=by repeat' (first|exact trivial|refine ⟨⟨qsafe_ok (st:=[]) rfl,Sure.of rfl⟩,?_⟩|refine ⟨.inl rfl,?_⟩|refine ⟨.inr ⟨qsafe_ok (st:=[]) rfl,Sure.of rfl⟩,?_⟩|refine ⟨⟨qsafe_ok (st:=[]) rfl,Sure.slice (by omega)⟩,?_⟩|refine ⟨.inr ⟨qsafe_ok (st:=[]) rfl,Sure.slice (by omega)⟩,?_⟩|refine ⟨.inr ⟨QY.neqB rfl (by kernel_rfl) rfl rfl,Sure.of rfl⟩,?_⟩|refine ⟨.inr ⟨QY.eqlB rfl (by kernel_rfl) rfl rfl,Sure.of rfl⟩,?_⟩ | fail)):LSt P n0 ss K l T L :=
 S_Ed [] h hg (EWd.callP φ ht hv he h1 h2 h3 h4) (disj_nil _) (nm_nilE _) (nm_nilT _) (by rintro _ _ ⟨rfl,rfl⟩; exact ⟨hc,hn⟩)
theorem cF {f:FuncId} {args:List Operand} {vs us:List Value} (φ:List Nat) (ht:Tr P f us Lc (fun v K=>v=v1∧K=L2)) (hn:nE (dpush d v2 l1) fun l=>nL K2 fun L=>LSt P n0 r K l T1 L) (h:arun [] ss l T L=(.e d g (.call f args) pend::r,l1,T1,L1):=by exact rfl) (hg:gw g l1=some true:=by exact rfl)
  (hv:lvs l1 args=some vs:=by exact rfl) (he:us.map (rnV L1.length φ)=vs:=by exact rfl) (h1:φ.Nodup:=by decide) (h2:partL L1 φ φ Lc:=by repeat' (first|exact trivial|refine ⟨rfl,?_⟩ | fail)) (h3:rnV (L1.length+L2.length) (phi2 φ L1.length L2) v1=v2:=by exact rfl) (h4:joinQ φ L1 L2=K2:=by exact rfl)
  (hc:chkP P n0 T1 K2 pend:=by repeat' (first|exact trivial|refine ⟨⟨qsafe_ok (st:=[]) rfl,Sure.of rfl⟩,?_⟩|refine ⟨⟨qsafe_ok (st:=[]) rfl,Sure.slice (by omega)⟩,?_⟩|refine ⟨⟨QY.neqB rfl (by kernel_rfl) rfl rfl,Sure.of rfl⟩,?_⟩|refine ⟨⟨QY.eqlB rfl (by kernel_rfl) rfl rfl,Sure.of rfl⟩,?_⟩ | fail)):LSt P n0 ss K l T L :=
 S_E [] h hg (EW.callF φ ht hv he h1 h2 h3 ((joinQ_eq h1).trans h4)) (by rintro _ _ ⟨rfl,rfl⟩; exact ⟨hc,LSt.nf hn⟩)
theorem cW {keep:List Nat} {f:FuncId} {args:List Operand} {vs us:List Value} (φ:List Nat) (ht:TrK P [] keep f us Lc (fun v K=>v=v1∧K=L2)) (hn:nE (dpush d v2 l1) fun l=>nL K2 fun L=>LSt P n0 r K l T1 L) (h:arun [] ss l T L=(.e d g (.call f args) pend::r,l1,T1,L1):=by exact rfl) (hg:gw g l1=some true:=by exact rfl)
  (hv:lvs l1 args=some vs:=by exact rfl) (he:us.map (rnV L1.length φ)=vs:=by exact rfl) (h1:φ.Nodup:=by decide) (h2:partL L1 φ φ Lc:=by repeat' (first|exact trivial|refine ⟨rfl,?_⟩ | fail)) (hm:nmL (dropped keep 0 φ) φ 0 L1=true:=by kernel_rfl) (h3:rnV (L1.length+L2.length) (phi2 φ L1.length L2) v1=v2:=by exact rfl) (h4:joinQ φ L1 L2=K2:=by exact rfl)
  (h5:disj (dropped keep 0 φ) n0.keep=true:=by kernel_rfl) (h6:nmE (dropped keep 0 φ) l1=true:=by kernel_rfl) (h7:nmT (dropped keep 0 φ) T1=true:=by kernel_rfl)
  (hc:chkG P n0 φ T1 L1 K2 pend:=by repeat' (first|exact trivial|refine ⟨.inl rfl,?_⟩|refine ⟨.inr ⟨qsafe_ok (st:=[]) rfl,Sure.of rfl⟩,?_⟩|refine ⟨.inr ⟨qsafe_ok (st:=[]) rfl,Sure.slice (by omega)⟩,?_⟩|refine ⟨.inr ⟨QY.neqB rfl (by kernel_rfl) rfl rfl,Sure.of rfl⟩,?_⟩|refine ⟨.inr ⟨QY.eqlB rfl (by kernel_rfl) rfl rfl,Sure.of rfl⟩,?_⟩ | fail)):LSt P n0 ss K l T L :=
 S_Ed [] h hg (EWd.callF φ ht hv he h1 h2 hm h3 ((joinQ_eq h1).trans h4)) h5 h6 h7 (by rintro _ _ ⟨rfl,rfl⟩; exact ⟨hc,LSt.nf hn⟩)
theorem eE (h:arun [] ss l T L=(.e d g eo pend::r,l1,T1,L1)) (hg:gw g l1=some true) (hw:EW P n0 L1 l1 eo (fun u K=>u=v1∧K=L2)) (hn:nE (dpush d v1 l1) fun l=>nL L2 fun L=>LSt P n0 r K l T1 L)
  (hc:chkP P n0 T1 L2 pend:=by repeat' (first|exact trivial|refine ⟨⟨qsafe_ok (st:=[]) rfl,Sure.of rfl⟩,?_⟩|refine ⟨⟨qsafe_ok (st:=[]) rfl,Sure.slice (by omega)⟩,?_⟩|refine ⟨⟨QY.neqB rfl (by kernel_rfl) rfl rfl,Sure.of rfl⟩,?_⟩|refine ⟨⟨QY.eqlB rfl (by kernel_rfl) rfl rfl,Sure.of rfl⟩,?_⟩ | fail)):LSt P n0 ss K l T L :=
 S_E [] h hg hw (by rintro _ _ ⟨rfl,rfl⟩; exact ⟨hc,LSt.nf hn⟩)
theorem qS {a b:MC} (h:LWp P n0 a (thenL (Nx n0 (LWp P n0 b Q)) Q) l L):LWp P n0 (.seq a b) Q l L:=L_seq h
theorem qR {ss:List Step} (h:LSt P n0 ss (Q .normal) l [] L):LWp P n0 (.reg ss) Q l L:=L_reg h
theorem qB {id:Nat} {b:MC} (h:LWp P n0 b (blkL id Q) l L):LWp P n0 (.block id b) Q l L:=L_block h
theorem qN {ss:List Step} {b:MC} (h:LSt P n0 ss (Nx n0 (LWp P n0 b Q)) l [] L):LWp P n0 (.seq (.reg ss) b) Q l L:=L_rs h
theorem qK (h:Q .normal l L):LWp P n0 .skip Q l L:=L_skip h
theorem qE {id:Nat} (h:Q (.exit id) l L):LWp P n0 (.exit id) Q l L:=L_exit h
theorem qL {b:MC} {Q2:Exit→Env→LH→Prop} (h:LWp P n0 b Q2 l L) (e:Nx n0 (LWp P n0 b Q2) l L→Q .normal l L:=by exact fun h=>h):LWp P n0 .skip Q l L:=L_skip (e (Nx.goL h))
theorem qF {id:Nat} {b:MC} {Q2:Exit→Env→LH→Prop} (h:LWp P n0 b Q2 l L) (e:Nx n0 (LWp P n0 b Q2) l L→Q (.exit id) l L:=by exact fun h=>h):LWp P n0 (.exit id) Q l L:=L_exit (e (Nx.goL h))
theorem qT {c:Operand} {x y:MC} (h:LWp P n0 x Q (knows c true l) L) (hc:lv l c=some (.bool true):=by exact rfl):LWp P n0 (.cond c x y) Q l L:=L_true hc h
theorem qU {c:Operand} {x y:MC} (h:LWp P n0 y Q (knows c false l) L) (hc:lv l c=some (.bool false):=by exact rfl):LWp P n0 (.cond c x y) Q l L:=L_false hc h
end
end Go.Tum
end
section
namespace Go.Tum
open Go
section
variable {P:Program} {n0:NA} {L:LH} {l:Env}
theorem EW.appIn {α:Type} {g:α→List Value} {sz:Nat} {o:Oper} {s x:Operand} {sT xT:TypeId} {bytes b n k bx:Nat} {xs:List α} {a:α} (h:RowOk g sz) (ho:o.op=.call ⟨.builtin .append,⟨[s,x]⟩,⟨[sT,xT]⟩⟩) (ht:appT P sT xT=some (sz,bytes)) (hs:lv l s=some (.slice (some ⟨b,0,none⟩) k n)) (hx:lv l x=some (.slice (some ⟨bx,0,none⟩) 1 1))
  (hb:L[b]?=some (.gro sz (rowsC g xs))) (hbx:L[bx]?=some (.cells 0 (g a))) (hn:xs.length=n) (hk:k<n) (hz0:0<sz) (hbd:(2*(k+1)+2048)*bytes≤281474976710656) :
  EW P n0 L l (.raw o) (fun v K=>v=.slice (some ⟨b,0,none⟩) (k+1) n∧K=L.set b (.gro sz (rowsC g (xs.set k a)))):=by
 intro X w0 E0 w E l' Kf h0 hE hR hl hK
 have hrl:(rowsC g xs).length=n*sz:=by rw [rowsC_length h,hn]
 have hks:k*sz+sz≤n*sz:=by rw [← Nat.succ_mul]; exact Nat.mul_le_mul_right _ hk
 have hga:=h.len a
 have hc1:∃ cells,lslc L sz (.slice (some ⟨b,0,none⟩) k n)=some cells:=by
  cases k with
  | zero=>exact ⟨[],rfl⟩
  | succ k =>
   have h1:Nat.ble (0+(k+1)*sz) (rowsC g xs).length=true:=Nat.ble_eq_true_of_le (by omega)
   have h2:(rowsC g xs).isEmpty=false:=by
    cases hq:rowsC g xs with
    | nil=>rw [hq] at hrl; simp at hrl; omega
    | cons=>rfl
   have h3:(((rowsC g xs).drop 0).take ((k+1)*sz)).all stillS=true:=List.all_eq_true.2 fun a ha=>List.all_eq_true.1 (rowsC_still h xs) a (List.mem_of_mem_drop (List.mem_of_mem_take ha))
   exact ⟨_,by simp only [lslc,lcells,hb,h1,h2,h3,Bool.and_self,Bool.not_false,cond_true]; rfl⟩
 have hc2:lslc L sz (.slice (some ⟨bx,0,none⟩) 1 1)=some (g a):=by
  have h1:Nat.ble (0+(0+1)*sz) (g a).length=true:=Nat.ble_eq_true_of_le (by rw [h.len]; omega)
  have h3:((g a).drop 0).take ((0+1)*sz)=g a:=by rw [List.drop_zero,List.take_of_length_le]; rw [h.len]; omega
  simp only [lslc,lcells,hbx,h1,h3,cond_true]
 obtain ⟨cells,hc1⟩:=hc1
 obtain ⟨vs',h1,hsr⟩:=lv_ev hl hs
 obtain ⟨vx',h3,hxr⟩:=lv_ev hl hx
 obtain ⟨us,hrd1,hl1⟩:=lslc_ok hR (hsr.sr rfl) hc1
 obtain ⟨us2,hrd2,hl2⟩:=lslc_ok hR (hxr.sr rfl) hc2
 obtain rfl:us2=g a:=L2.eq_still (h.still a) hl2
 have hlen1:us.length=k*sz:=hrd1.1
 unfold appT at ht
 split at ht
 rotate_left
 ·cases ht
 rename_i e i z he
 cases hc:(isSl P xT && Nat.beq z.cells.toList.length i.size && z.cells.toList.all one && Nat.blt 0 i.bytes && Nat.blt 0 i.size)
 ·rw [hc] at ht; cases ht
 rw [hc] at ht
 cases ht
 simp only [Bool.and_eq_true] at hc
 obtain ⟨hu,hi,hz⟩:=elemOf_ok he
 have he':ElemT P sT e i.size i.bytes:=⟨hu,i,z,hi,rfl,rfl,hz,by simpa using Nat.eq_of_beq_eq_true hc.1.1.1.2,fun u hu=>List.all_eq_true.1 hc.1.1.2 u hu⟩
 obtain ⟨d,op,ty,pos,af,g'⟩:=o
 simp only at ho
 subst ho
 rcases hR.blk b _ _ hb (hR.ent hb).choose_spec with ⟨hne,_⟩ | ⟨hne,hsz,cs,hB,hcs,hroom⟩
 ·rw [hne] at hrl; simp at hrl; omega
 obtain ⟨hsp,r,hr,⟨a',c',rfl,⟨rfl,rfl⟩ | ⟨_,hc0,_⟩⟩ | ⟨_,hc0,_⟩⟩:=hsr.sr rfl
 rotate_left
 ·omega
 ·omega
 have er:(hR.ent hb).choose=r:=Option.some.inj ((hR.ent hb).choose_spec.symm.trans hr)
 rw [er] at hB hcs hroom
 refine append_any he' (isSl_ok hc.1.1.1.1) h1 h3 hrd1 hrd2 hbd (Nat.le_of_ble_eq_true hc.1.2) (fun hle' a2 ha=>.inr ?_) (fun _ ha=>by cases ha) (fun hlt' c'' zs hc'' hlz=>by omega)
 cases ha
 have hcl:0+r.2.1+k*i.size+(g a).length≤cs.length:=by omega
 have hls:(rowsC g (xs.set k a)).length=(rowsC g xs).length:=by rw [rowsC_length h,rowsC_length h,List.length_set]
 have hne2:rowsC g (xs.set k a)≠[]:=by intro e; rw [e] at hls; simp at hls; exact hne (List.length_eq_zero_iff.1 hls.symm)
 refine ⟨_,_,cs,rfl,hB,hcl,hK _ E _ _ _ ⟨rfl,rfl⟩ (Ext.refl E) (hR.upd hb hr ?_ (.inr ⟨hne2,hsz,_,putCells_blk (g a) 0 w cs hB (by omega),?_,?_⟩) ?_) ⟨rfl,r,hr,.inl ⟨_,_,rfl,.inl ⟨rfl,rfl⟩⟩⟩⟩
 ·rw [gro_foot hne]; exact putCells_fr (p:=⟨r.1,0+r.2.1+k*i.size,none⟩) (g a) 0 w
 ·rw [hls,Nat.add_zero,splice_drop hcl (by omega),show 0+r.2.1+k*i.size-r.2.1=k*i.size by omega,splice_take (by omega) (by simp; omega),hcs,rowsC_set h a (by omega)]
 ·rw [hls,Nat.add_zero,splice_length hcl]; exact hroom
 ·rw [gro_foot hne,gro_foot hne2]; exact fun _ h=>.inl h
theorem EW.cpy {α:Type} {g:α→List Value} {sz:Nat} {o:Oper} {s x:Operand} {sT xT:TypeId} {bytes b bx ox i m cx:Nat} {ys:List α} (zs:List α) (h:RowOk g sz) (ho:o.op=.call ⟨.builtin .append,⟨[s,x]⟩,⟨[sT,xT]⟩⟩) (ht:appT P sT xT=some (sz,bytes)) (hs:lv l s=some (.slice (some ⟨b,0,none⟩) 0 0)) (hx:lv l x=some (.slice (some ⟨bx,ox,none⟩) m cx))
  (hb:L[b]?=some (.gro sz [])) (hbx:L[bx]?=some (.gro sz (rowsC g ys))) (hox:ox=i*sz) (hm:i+m≤ys.length) (hzs:(ys.drop i).take m=zs) (hz:0<sz) (hbd:(2*m+2048)*bytes≤281474976710656) :
  EW P n0 L l (.raw o) (fun v K=>v=.slice (some ⟨L.length,0,none⟩) m m∧K=L.set b .dead++[.gro sz (rowsC g zs)]):=by
 have:=EW.appRS (P:=P) (n0:=n0) (L:=L) (xs:=[]) h ho ht hs hx hb hbx hox rfl hm hz (by rw [Nat.zero_add]; exact hbd)
 rw [hzs,List.nil_append,Nat.zero_add] at this
 exact this
theorem L2.setL {R:Value→Value→Prop}:∀ {x y:List Value} {j:Nat} {u:Value},L2 R x y→(∀ a c,x[j]?=some a→R a c→R u c)→L2 R (x.set j u) y
 | [],_,_,_,h,_=>h
 | _::_,[],_,_,h,_=>h.elim
 | a::x,c::y,0,u,h,hu=>⟨hu a c rfl h.1,h.2⟩
 | a::x,c::y,j+1,u,h,hu=>⟨h.1,L2.setL h.2 fun a' c' ha=>hu a' c' (by simpa using ha)⟩
theorem rep_nilC {b j sz:Nat} (szg:Nat) {vs:List Value} {X:Nat→Prop} {w0 w:World} {E:Emb} (hb:L[b]?=some (.cells sz vs)) (hv:vs[j]?=some (.slice none 0 0)) (hR:Rep X w0 E L w):Rep X w0 (E++[(0,0,0)]) (L.set b (.cells sz (vs.set j (.slice (some ⟨L.length,0,none⟩) 0 0)))++[.gro szg []]) w:=by
 have h1:Rep X w0 (E++[(0,0,0)]) (L++[.gro szg []]) w:=hR.push (Fr.refl _ w) (fun _ h=>h.elim) (.inl ⟨rfl,rfl⟩)
 have hlast:(E++[(0,0,0)])[L.length]?=some (0,0,0):=by rw [← hR.len]; simp
 have hlt:=(List.getElem?_eq_some_iff.1 hb).1
 have hb1:(L++[LB.gro szg []])[b]?=some (.cells sz vs):=by rw [List.getElem?_append_left hlt]; exact hb
 obtain ⟨r,hr⟩:=h1.ent hb1
 obtain ⟨cs,hB,hl2,hroom,hz⟩:=h1.blk b _ r hb1 hr
 have h2:=h1.upd (x:=.cells sz (vs.set j (.slice (some ⟨L.length,0,none⟩) 0 0))) hb1 hr (Fr.refl _ w) ⟨cs,hB,?_,by rw [List.length_set]; exact hroom,hz⟩ (fun _ h=>.inl h)
 ·rw [List.set_append_left _ _ hlt] at h2; exact h2
 ·rw [List.length_set]
  refine L2.setL hl2 fun a c ha hc=>?_
  rw [hv] at ha; cases ha
  have hc:c=Value.slice none 0 0:=hc
  subst hc
  exact ⟨rfl,_,hlast,.inr ⟨rfl,rfl,_,rfl⟩⟩
theorem LWp.nilC {m:MC} {Q:Exit→Env→LH→Prop} (b j szg:Nat) {sz:Nat} {vs:List Value} (hb:L[b]?=some (.cells sz vs)) (hv:vs[j]?=some (.slice none 0 0)) (h:LWp P n0 m Q l (L.set b (.cells sz (vs.set j (.slice (some ⟨L.length,0,none⟩) 0 0)))++[.gro szg []])):LWp P n0 m Q l L :=
 ⟨fun X w0 E0 w E l' h0 hE hR hl=>h.go X w0 E0 w (E++[(0,0,0)]) l' h0 (hE.trans (Ext.push E _)) (rep_nilC szg hb hv hR) (hl.ext (Ext.push E _))⟩
end
end Go.Tum
end
section
namespace Go.Tum
open Go
theorem wk_dead {L:LH} (b:Nat) {x:LB} (hb:L[b]?=some x):∀ X w0 E w,Rep X w0 E L w→Rep X w0 E (L.set b .dead) w:=by
 intro X w0 E w hR
 obtain ⟨r,hr⟩:=hR.ent hb
 exact hR.upd (x:=.dead) hb hr (Fr.refl _ w) trivial (fun _ h=>h.elim)
section
variable {P:Program} {n0:NA} {Q:Exit→Env→LH→Prop} {K:Env→LH→Prop} {l l1:Env} {L L1 L2 K2 Lc:LH} {T T1:Taken} {k:Nat} {d:Option Nat} {g:Option (Nat × Bool)} {rd:Bool} {r ss ss1:List Step} {x y:Operand} {b:MC} {op:QOp} {eo:EOp} {pend:List Nat} {v v1 v2:Value}
theorem cV {keep:List Nat} {f:FuncId} {args:List Operand} {a c vs us:List Value} (φ:List Nat) (ht:TrK P [] keep f us Lc (fun v K=>v=v1∧K=L2)) (hn:nE (dpush d v2 l1) fun l=>nL K2 fun L=>LSt P n0 r K l T1 L) (h:arun [] ss l T L=(.e d g (.callv x args) pend::r,l1,T1,L1):=by exact rfl) (hg:gw g l1=some true:=by exact rfl)
  (hx:lv l1 x=some (.func (.func f) ⟨a⟩ ⟨c⟩):=by exact rfl) (hv:lvs l1 args=some vs:=by exact rfl) (he:us.map (rnV L1.length φ)=a++vs++c:=by exact rfl) (h1:φ.Nodup:=by decide) (h2:partL L1 φ φ Lc:=by repeat' (first|exact trivial|refine ⟨rfl,?_⟩ | fail)) (hm:nmL (dropped keep 0 φ) φ 0 L1=true:=by kernel_rfl) (h3:rnV (L1.length+L2.length) (phi2 φ L1.length L2) v1=v2:=by exact rfl) (h4:joinQ φ L1 L2=K2:=by exact rfl)
  (h5:disj (dropped keep 0 φ) n0.keep=true:=by kernel_rfl) (h6:nmE (dropped keep 0 φ) l1=true:=by kernel_rfl) (h7:nmT (dropped keep 0 φ) T1=true:=by kernel_rfl)
  (hc:chkG P n0 φ T1 L1 K2 pend:=by repeat' (first|exact trivial|refine ⟨.inl rfl,?_⟩|refine ⟨.inr ⟨qsafe_ok (st:=[]) rfl,Sure.of rfl⟩,?_⟩ | fail)):LSt P n0 ss K l T L :=
 S_Ed [] h hg ((EWd.callv φ ht hx hv he (Part.of h1 h2) handed_nil hm).mono fun v K ⟨v',L',⟨h3',h4'⟩,h5',h6'⟩=>(by subst h3'; subst h4'; exact ⟨h5'.trans h3,h6'.trans ((joinQ_eq h1).trans h4)⟩:v=v2∧K=K2)) h5 h6 h7 (by rintro _ _ ⟨rfl,rfl⟩; exact ⟨hc,LSt.nf hn⟩)
end
end Go.Tum
end
