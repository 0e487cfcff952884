/- Part of a proof: The functions of the seat in the abstract form (printed by airgen.py), and that they are the program's. -/
import Derived.Test.YtlhmipepdcndoaaGreatDoorProg
import Derived.Test.YtlhmipepdcndoaaGreatDoorF3
set_option maxRecDepth 100000
namespace Go.Av
open Go Go.Proofs

-- tactician/tacticianlaw18.TraitsHolds
def a3_l0 : ACode := (.seq (.seq (.region [{ op := .mov 46 (.s 14) false },
    { op := .mov 47 (.s 13) false },
    { op := .len 48 false (.s 47) },
    { op := .bin 49 .lss (.s 46) (.s 48) }] none false [0, 2, 5, 9, 10, 11, 13, 14, 49] [5, 10])
  (.cond (.s 49) (.skip [0, 2, 5, 9, 10, 11, 13, 14] [5, 10]) (.exit 0 [0, 2, 5] [5])))
  (.seq (.block 1 (.seq (.region [{ op := .mov 53 (.s 9) false },
    { op := .load 54 3 true (.s 10), blk := some 10 },
    { op := .mov 55 (.s 13) false },
    { op := .mov 56 (.s 14) false },
    { op := .iaddrS 57 1 (.s 55) (.s 56) },
    { op := .load 58 1 false (.s 57), blk := some 99999 },
    { op := .call (some 59) 12 [(.s 53), (.s 54), (.s 58)] },
    { op := .mov 52 (.s 59) false },
    { op := .extract 60 (.s 52) 0 },
    { op := .extract 61 (.s 52) 1 },
    { op := .mov 15 (.s 60) false },
    { op := .mov 16 (.s 61) false }] (some [0, 0, 0, 0, 12, 28, 63, 127, 255, 255, 511, 2047]) true [0, 2, 5, 9, 10, 11, 13, 14, 15, 16] [5, 10])
  (.seq (.region [{ op := .mov 63 (.s 9) false },
    { op := .mov 64 (.s 11) false },
    { op := .mov 65 (.s 13) false },
    { op := .mov 66 (.s 14) false },
    { op := .iaddrS 67 1 (.s 65) (.s 66) },
    { op := .load 68 1 false (.s 67) },
    { op := .call (some 69) 13 [(.s 63), (.s 64), (.s 68)] },
    { op := .mov 62 (.s 69) false },
    { op := .extract 70 (.s 62) 0 },
    { op := .extract 71 (.s 62) 1 },
    { op := .mov 17 (.s 70) false },
    { op := .mov 18 (.s 71) false }] none false [0, 2, 5, 9, 10, 11, 13, 14, 15, 16, 17, 18] [5, 10])
  (.seq (.seq (.region [{ op := .mov 72 (.s 9) false },
    { op := .mov 73 (.s 13) false },
    { op := .mov 74 (.s 14) false },
    { op := .iaddrS 75 1 (.s 73) (.s 74) },
    { op := .load 76 1 false (.s 75) },
    { op := .call (some 77) 14 [(.s 72), (.s 76)] },
    { op := .un 78 .not (.s 77) }] none false [0, 2, 5, 9, 10, 11, 13, 14, 15, 16, 17, 18, 78] [5, 10])
  (.cond (.s 78) (.seq (.seq (.region [{ op := .mov 79 (.s 15) false },
    { op := .mov 80 (.s 79) false },
    { op := .mov 81 (.s 16) false, gd := some (80, false) },
    { op := .bin 82 .neq (.s 81) (.c (.int .i64 20)), gd := some (80, false) },
    { op := .pick 83 (.s 80) (.c (.bool true)) (.s 82) },
    { op := .mov 84 (.s 83) false },
    { op := .mov 85 (.s 17) false, gd := some (84, false) },
    { op := .pick 86 (.s 84) (.c (.bool true)) (.s 85) },
    { op := .mov 87 (.s 86) false },
    { op := .mov 88 (.s 18) false, gd := some (87, false) },
    { op := .bin 89 .neq (.s 88) (.c (.int .i64 20)), gd := some (87, false) },
    { op := .pick 90 (.s 87) (.c (.bool true)) (.s 89) }] none false [0, 2, 5, 9, 10, 11, 13, 14, 90] [5, 10])
  (.cond (.s 90) (.seq (.region [{ op := .mov 8 (.c (.bool false)) false }] none false [8] [])
  .ret) (.skip [0, 2, 5, 9, 10, 11, 13, 14] [5, 10])))
  (.exit 1 [0, 2, 5, 9, 10, 11, 13, 14] [5, 10])) (.skip [0, 2, 5, 9, 10, 11, 13, 14, 15, 16, 17, 18] [5, 10])))
  (.seq (.region [{ op := .mov 91 (.s 15) false },
    { op := .load 92 3 true (.s 10), blk := some 10 },
    { op := .mov 93 (.s 13) false },
    { op := .mov 94 (.s 14) false },
    { op := .iaddrS 95 1 (.s 93) (.s 94) },
    { op := .load 96 1 false (.s 95), blk := some 99999 },
    { op := .call (some 97) 15 [(.s 92), (.s 96)] },
    { op := .eqb 98 true (.s 91) (.s 97) },
    { op := .mov 99 (.s 98) false },
    { op := .mov 100 (.s 16) false, gd := some (99, false) },
    { op := .bin 101 .neq (.s 100) (.c (.int .i64 0)), gd := some (99, false) },
    { op := .pick 102 (.s 99) (.c (.bool true)) (.s 101) },
    { op := .mov 103 (.s 102) false },
    { op := .mov 104 (.s 17) false, gd := some (103, false) },
    { op := .mov 105 (.s 11) false, gd := some (103, false) },
    { op := .mov 106 (.s 13) false, gd := some (103, false) },
    { op := .mov 107 (.s 14) false, gd := some (103, false) },
    { op := .iaddrS 108 1 (.s 106) (.s 107), gd := some (103, false) },
    { op := .load 109 1 false (.s 108), gd := some (103, false), blk := some 99999 },
    { op := .call (some 110) 16 [(.s 105), (.s 109)], gd := some (103, false) },
    { op := .eqb 111 true (.s 104) (.s 110), gd := some (103, false) },
    { op := .pick 112 (.s 103) (.c (.bool true)) (.s 111) },
    { op := .mov 113 (.s 112) false },
    { op := .mov 114 (.s 18) false, gd := some (113, false) },
    { op := .bin 115 .neq (.s 114) (.c (.int .i64 0)), gd := some (113, false) },
    { op := .pick 116 (.s 113) (.c (.bool true)) (.s 115) }] (some [0, 0, 0, 0, 12, 28, 62, 127, 255, 511, 1023, 2047, 4095, 8191, 8191, 8191, 8191, 106495, 237567, 516095, 1048575, 2097151, 4194303, 8388607, 16777215, 33554431]) true [0, 2, 5, 9, 10, 11, 13, 14, 116] [5, 10])
  (.cond (.s 116) (.seq (.region [{ op := .mov 8 (.c (.bool false)) false }] none false [8] [])
  .ret) (.skip [0, 2, 5, 9, 10, 11, 13, 14] [5, 10])))))))
  (.region [{ op := .mov 50 (.s 14) false },
    { op := .bin 51 .add (.s 50) (.c (.int .i64 1)) },
    { op := .mov 14 (.s 51) false }] none false [0, 2, 5, 9, 10, 11, 13, 14] [5, 10])))
def a3 : AFun := { n := 4, N := 150, res := [.tmp 8], body :=
  (.seq (.region [{ op := .box 5 false (.s 1) },
    { op := .mov 8 (.c (.bool false)) false }] none false [0, 2, 3, 5] [5])
  (.seq (.region [{ op := .mov 25 (.s 0) false },
    { op := .call (some 26) 5 [(.s 25)] },
    { op := .mov 9 (.s 26) false }] none false [0, 2, 3, 5, 9] [5])
  (.seq (.region [{ op := .mov 27 (.s 9) false },
    { op := .load 28 3 true (.s 5) },
    { op := .call (some 29) 6 [(.s 27), (.s 28)] },
    { op := .mov 30 (.s 9) false },
    { op := .mov 31 (.s 2) false },
    { op := .call (some 32) 7 [(.s 30), (.s 31)] },
    { op := .alloc 10 false [.slice 1 [], .slice 2 [], .slice 1 []] [(0, 3), (1, 63), (2, 22)] },
    { op := .store (.s 10) (.s 29) 3 false },
    { op := .mov 11 (.s 32) true }] none false [0, 2, 3, 5, 9, 10, 11] [5, 10])
  (.seq (.region [{ op := .mov 33 (.s 9) false },
    { op := .mov 34 (.s 3) false },
    { op := .call (some 35) 8 [(.s 33), (.s 34), (.c (.int .i64 10))] },
    { op := .mov 12 (.s 35) true }] none false [0, 2, 3, 5, 9, 10, 11, 12] [5, 10])
  (.seq (.region [{ op := .mov 36 (.s 12) false },
    { op := .load 37 3 true (.s 10) },
    { op := .mov 38 (.s 12) false },
    { op := .call (some 39) 9 [(.s 37), (.s 38)] },
    { op := .mov 40 (.s 12) true },
    { op := .mov 41 (.s 11) false },
    { op := .call (some 42) 10 [(.s 40), (.s 41)] },
    { op := .mov 43 (.s 3) true },
    { op := .call (some 44) 11 [(.s 43)] },
    { op := .bslice 45 1 28 [(.s 36), (.s 39), (.s 42), (.s 44)] },
    { op := .mov 13 (.s 45) true }] none false [0, 2, 5, 9, 10, 11, 13] [5, 10])
  (.seq (.seq (.region [{ op := .mov 14 (.c (.int .i64 0)) false }] none false [0, 2, 5, 9, 10, 11, 13, 14] [5, 10])
  (.block 0 (.loop a3_l0)))
  (.seq (.region [{ op := .load 117 3 true (.s 5) },
    { op := .call (some 118) 17 [(.s 117)] },
    { op := .mov 119 (.s 2) true },
    { op := .call (some 120) 18 [(.s 119)] },
    { op := .alloc 19 false [.slice 1 [], .slice 2 [], .slice 1 []] [(0, 3), (1, 63), (2, 22)] },
    { op := .store (.s 19) (.s 118) 3 false },
    { op := .mov 20 (.s 120) true }] none false [0, 19, 20] [19])
  (.seq (.region [{ op := .mov 122 (.s 0) false },
    { op := .load 123 3 true (.s 19) },
    { op := .call (some 124) 12 [(.s 122), (.s 123), (.c (.slice 1 []))] },
    { op := .mov 121 (.s 124) false },
    { op := .extract 125 (.s 121) 0 },
    { op := .extract 126 (.s 121) 1 },
    { op := .mov 21 (.s 125) false },
    { op := .mov 22 (.s 126) false }] none false [0, 19, 20, 22] [19])
  (.seq (.region [{ op := .mov 128 (.s 0) false },
    { op := .mov 129 (.s 20) false },
    { op := .call (some 130) 13 [(.s 128), (.s 129), (.c (.slice 1 []))] },
    { op := .mov 127 (.s 130) false },
    { op := .extract 131 (.s 127) 0 },
    { op := .extract 132 (.s 127) 1 },
    { op := .mov 23 (.s 131) false },
    { op := .mov 24 (.s 132) false }] none false [0, 19, 20, 22, 24] [19])
  (.seq (.region [{ op := .mov 133 (.s 22) false },
    { op := .mov 134 (.s 0) false },
    { op := .load 135 3 true (.s 19) },
    { op := .call (some 136) 19 [(.s 134), (.s 135), (.c (.slice 1 []))] },
    { op := .bin 137 .eql (.s 133) (.s 136) },
    { op := .mov 138 (.s 137) false },
    { op := .mov 139 (.s 24) false, gd := some (138, true) },
    { op := .mov 140 (.s 0) false, gd := some (138, true) },
    { op := .build 141 [.slice 1 [], .slice 2 [], .slice 1 []] [], gd := some (138, true) },
    { op := .mov 142 (.s 20) true, gd := some (138, true) },
    { op := .bslice 143 1 27 [(.s 142)], gd := some (138, true) },
    { op := .call (some 144) 19 [(.s 140), (.s 141), (.s 143)], gd := some (138, true) },
    { op := .bin 145 .eql (.s 139) (.s 144), gd := some (138, true) },
    { op := .pick 146 (.s 138) (.s 145) (.c (.bool false)) },
    { op := .mov 147 (.s 146) false },
    { op := .call (some 148) 20 [], gd := some (147, true) },
    { op := .pick 149 (.s 147) (.s 148) (.c (.bool false)) },
    { op := .mov 8 (.s 149) false }] none false [8] [])
  .ret)))))))))) }

-- tactician/tacticianlaw18.TraitsTexts
def a4_l0 : ACode := (.seq (.seq (.region [{ op := .mov 29 (.s 9) false },
    { op := .mov 30 (.s 5) false },
    { op := .len 31 false (.s 30) },
    { op := .bin 32 .lss (.s 29) (.s 31) }] none false [0, 1, 5, 6, 7, 8, 9, 32] [])
  (.cond (.s 32) (.skip [0, 1, 5, 6, 7, 8, 9] []) (.exit 0 [0, 1, 5, 6, 7, 8] [])))
  (.seq (.block 1 (.region [{ op := .mov 35 (.s 8) false },
    { op := .mov 36 (.s 35) false },
    { op := .mov 37 (.s 5) false, gd := some (36, true) },
    { op := .mov 38 (.s 9) false, gd := some (36, true) },
    { op := .iaddrS 39 2 (.s 37) (.s 38), gd := some (36, true) },
    { op := .faddr 40 0 (.s 39), gd := some (36, true) },
    { op := .load 41 1 false (.s 40), gd := some (36, true) },
    { op := .bin 42 .geq (.s 41) (.c (.int .i64 0)), gd := some (36, true) },
    { op := .pick 43 (.s 36) (.s 42) (.c (.bool false)) },
    { op := .mov 8 (.s 43) false }] none false [0, 1, 5, 6, 7, 8, 9] []))
  (.region [{ op := .mov 33 (.s 9) false },
    { op := .bin 34 .add (.s 33) (.c (.int .i64 1)) },
    { op := .mov 9 (.s 34) false }] none false [0, 1, 5, 6, 7, 8, 9] [])))
def a4_l1 : ACode := (.seq (.seq (.region [{ op := .mov 87 (.s 12) false },
    { op := .mov 88 (.s 11) false },
    { op := .len 89 false (.s 88) },
    { op := .bin 90 .lss (.s 87) (.s 89) }] none false [10, 11, 12, 90] [])
  (.cond (.s 90) (.skip [10, 11, 12] []) (.exit 2 [10] [])))
  (.seq (.block 3 (.seq (.region [{ op := .mov 94 (.s 11) false },
    { op := .mov 95 (.s 12) false },
    { op := .iaddrS 96 1 (.s 94) (.s 95) },
    { op := .load 97 1 false (.s 96) },
    { op := .call (some 98) 23 [(.s 97)] },
    { op := .mov 93 (.s 98) false },
    { op := .extract 99 (.s 93) 0 },
    { op := .extract 100 (.s 93) 1 },
    { op := .mov 13 (.s 99) true },
    { op := .mov 14 (.s 100) false }] none false [10, 11, 12, 13, 14] [])
  (.seq (.region [{ op := .mov 102 (.s 11) false },
    { op := .mov 103 (.s 12) false },
    { op := .iaddrS 104 1 (.s 102) (.s 103) },
    { op := .load 105 1 false (.s 104) },
    { op := .call (some 106) 24 [(.s 105)] },
    { op := .mov 101 (.s 106) false },
    { op := .extract 107 (.s 101) 0 },
    { op := .extract 108 (.s 101) 1 },
    { op := .mov 15 (.s 107) true },
    { op := .mov 16 (.s 108) false }] none false [10, 11, 12, 13, 14, 15, 16] [])
  (.seq (.region [{ op := .mov 109 (.s 16) false },
    { op := .un 110 .not (.s 109) },
    { op := .mov 111 (.s 110) false },
    { op := .mov 112 (.s 13) false, gd := some (111, true) },
    { op := .len 113 false (.s 112), gd := some (111, true) },
    { op := .bin 114 .neq (.s 113) (.c (.int .i64 0)), gd := some (111, true) },
    { op := .mov 115 (.s 114) false, gd := some (111, true) },
    { op := .mov 116 (.s 14) false, gd := some (115, false) },
    { op := .bin 117 .neq (.s 116) (.c (.int .i64 180)), gd := some (115, false) },
    { op := .pick 118 (.s 115) (.c (.bool true)) (.s 117), gd := some (111, true) },
    { op := .pick 119 (.s 111) (.s 118) (.c (.bool false)) },
    { op := .mov 120 (.s 119) false },
    { op := .mov 121 (.s 16) false, gd := some (120, false) },
    { op := .mov 122 (.s 121) false, gd := some (120, false) },
    { op := .mov 123 (.s 14) false, gd := some (122, true) },
    { op := .bin 124 .neq (.s 123) (.c (.int .i64 0)), gd := some (122, true) },
    { op := .mov 125 (.s 124) false, gd := some (122, true) },
    { op := .mov 126 (.s 13) true, gd := some (125, false) },
    { op := .mov 127 (.s 15) true, gd := some (125, false) },
    { op := .call (some 128) 25 [(.s 126), (.s 127)], gd := some (125, false) },
    { op := .un 129 .not (.s 128), gd := some (125, false) },
    { op := .pick 130 (.s 125) (.c (.bool true)) (.s 129), gd := some (122, true) },
    { op := .pick 131 (.s 122) (.s 130) (.c (.bool false)), gd := some (120, false) },
    { op := .pick 132 (.s 120) (.c (.bool true)) (.s 131) }] none false [10, 11, 12, 132] [])
  (.cond (.s 132) (.seq (.region [{ op := .mov 4 (.c (.bool false)) false }] none false [4] [])
  .ret) (.skip [10, 11, 12] []))))))
  (.region [{ op := .mov 91 (.s 12) false },
    { op := .bin 92 .add (.s 91) (.c (.int .i64 1)) },
    { op := .mov 12 (.s 92) false }] none false [10, 11, 12] [])))
def a4 : AFun := { n := 2, N := 149, res := [.tmp 4], body :=
  (.seq (.region [{ op := .mov 4 (.c (.bool false)) false }] none false [0, 1] [])
  (.seq (.region [{ op := .mov 19 (.s 0) false },
    { op := .call (some 20) 18 [(.s 19)] },
    { op := .mov 5 (.s 20) true }] none false [0, 1, 5] [])
  (.seq (.region [{ op := .mov 22 (.s 5) false },
    { op := .call (some 23) 21 [(.s 22)] },
    { op := .mov 21 (.s 23) false },
    { op := .extract 24 (.s 21) 0 },
    { op := .extract 25 (.s 21) 1 },
    { op := .mov 6 (.s 24) false },
    { op := .mov 7 (.s 25) false }] none false [0, 1, 5, 6, 7] [])
  (.seq (.region [{ op := .mov 26 (.s 5) false },
    { op := .len 27 false (.s 26) },
    { op := .bin 28 .leq (.s 27) (.c (.int .i64 32)) },
    { op := .mov 8 (.s 28) false }] none false [0, 1, 5, 6, 7, 8] [])
  (.seq (.seq (.region [{ op := .mov 9 (.c (.int .i64 0)) false }] none false [0, 1, 5, 6, 7, 8, 9] [])
  (.block 0 (.loop a4_l0)))
  (.seq (.seq (.region [{ op := .mov 44 (.s 8) false },
    { op := .un 45 .not (.s 44) },
    { op := .mov 46 (.s 45) false },
    { op := .mov 47 (.s 6) false, gd := some (46, true) },
    { op := .bin 48 .neq (.s 47) (.c (.str ⟨#[]⟩)), gd := some (46, true) },
    { op := .mov 49 (.s 48) false, gd := some (46, true) },
    { op := .mov 50 (.s 7) false, gd := some (49, false) },
    { op := .bin 51 .neq (.s 50) (.c (.int .i64 180)), gd := some (49, false) },
    { op := .pick 52 (.s 49) (.c (.bool true)) (.s 51), gd := some (46, true) },
    { op := .pick 53 (.s 46) (.s 52) (.c (.bool false)) },
    { op := .mov 54 (.s 53) false },
    { op := .mov 55 (.s 8) false, gd := some (54, false) },
    { op := .mov 56 (.s 55) false, gd := some (54, false) },
    { op := .mov 57 (.s 7) false, gd := some (56, true) },
    { op := .bin 58 .neq (.s 57) (.c (.int .i64 0)), gd := some (56, true) },
    { op := .mov 59 (.s 58) false, gd := some (56, true) },
    { op := .mov 60 (.s 6) false, gd := some (59, false) },
    { op := .mov 61 (.s 5) true, gd := some (59, false) },
    { op := .call (some 62) 22 [(.s 61)], gd := some (59, false) },
    { op := .bin 63 .neq (.s 60) (.s 62), gd := some (59, false) },
    { op := .pick 64 (.s 59) (.c (.bool true)) (.s 63), gd := some (56, true) },
    { op := .pick 65 (.s 56) (.s 64) (.c (.bool false)), gd := some (54, false) },
    { op := .pick 66 (.s 54) (.c (.bool true)) (.s 65) }] none false [0, 1, 66] [])
  (.cond (.s 66) (.seq (.region [{ op := .mov 4 (.c (.bool false)) false }] none false [4] [])
  .ret) (.skip [0, 1] [])))
  (.seq (.region [{ op := .mov 67 (.s 0) true },
    { op := .call (some 68) 7 [(.c (.int .i64 3000)), (.s 67)] },
    { op := .mov 10 (.s 68) true }] none false [1, 10] [])
  (.seq (.region [{ op := .mov 69 (.s 10) false },
    { op := .call (some 70) 22 [(.s 69)] },
    { op := .mov 71 (.s 1) false },
    { op := .mov 72 (.s 1) false },
    { op := .len 73 true (.s 72) },
    { op := .mm 74 false (.s 73) (.c (.int .i64 300)) },
    { op := .sliceS 75 (.s 71) none (some (.s 74)) },
    { op := .mov 76 (.s 1) false },
    { op := .mov 77 (.s 1) false },
    { op := .len 78 true (.s 77) },
    { op := .mm 79 false (.s 78) (.c (.int .i64 300)) },
    { op := .sliceS 80 (.s 76) none (some (.s 79)) },
    { op := .bin 81 .add (.c (.str ⟨#[91]⟩)) (.s 80) },
    { op := .bin 82 .add (.s 81) (.c (.str ⟨#[93]⟩)) },
    { op := .mov 83 (.s 10) false },
    { op := .call (some 84) 22 [(.s 83)] },
    { op := .bin 85 .add (.c (.str ⟨#[91]⟩)) (.s 84) },
    { op := .bslice 86 1 9 [(.s 70), (.s 75), (.s 82), (.s 85)] },
    { op := .mov 11 (.s 86) true }] (some [0, 1, 0, 0, 8, 24, 60, 0, 0, 256, 768, 1920, 3968, 8064, 0, 16387, 49155, 131071, 262143]) true [10, 11] [])
  (.seq (.seq (.region [{ op := .mov 12 (.c (.int .i64 0)) false }] none false [10, 11, 12] [])
  (.block 2 (.loop a4_l1)))
  (.seq (.region [{ op := .mov 134 (.s 10) false },
    { op := .call (some 135) 22 [(.s 134)] },
    { op := .call (some 136) 23 [(.s 135)] },
    { op := .mov 133 (.s 136) false },
    { op := .extract 137 (.s 133) 0 },
    { op := .extract 138 (.s 133) 1 },
    { op := .mov 17 (.s 137) true },
    { op := .mov 18 (.s 138) false }] none false [10, 17, 18] [])
  (.seq (.region [{ op := .mov 139 (.s 18) false },
    { op := .bin 140 .eql (.s 139) (.c (.int .i64 0)) },
    { op := .mov 141 (.s 140) false },
    { op := .mov 142 (.s 17) true, gd := some (141, true) },
    { op := .mov 143 (.s 10) true, gd := some (141, true) },
    { op := .call (some 144) 25 [(.s 142), (.s 143)], gd := some (141, true) },
    { op := .pick 145 (.s 141) (.s 144) (.c (.bool false)) },
    { op := .mov 146 (.s 145) false },
    { op := .call (some 147) 20 [], gd := some (146, true) },
    { op := .pick 148 (.s 146) (.s 147) (.c (.bool false)) },
    { op := .mov 4 (.s 148) false }] none false [4] [])
  .ret))))))))))) }

-- tactician/tacticianlaw18.columns
def a5 : AFun := { n := 1, N := 8, res := [.tmp 2], body :=
  (.seq (.region [{ op := .mov 2 (.c (.int .i64 0)) false }] none false [0] [])
  (.seq (.region [{ op := .mov 3 (.s 0) false },
    { op := .convI 4 .u64 (.s 3) },
    { op := .bin 5 .rem (.s 4) (.c (.int .u64 5)) },
    { op := .convI 6 .i64 (.s 5) },
    { op := .bin 7 .add (.c (.int .i64 1)) (.s 6) },
    { op := .mov 2 (.s 7) false }] none false [2] [])
  .ret)) }

-- tactician/tacticianref18.Tame
def a6_l0 : ACode := (.seq (.seq (.region [{ op := .mov 12 (.s 6) false },
    { op := .faddr 13 0 (.s 3) },
    { op := .load 14 1 false (.s 13) },
    { op := .len 15 false (.s 14) },
    { op := .bin 16 .lss (.s 12) (.s 15) },
    { op := .mov 17 (.s 16) false },
    { op := .mov 18 (.s 6) false, gd := some (17, true) },
    { op := .bin 19 .lss (.s 18) (.c (.int .i64 2)), gd := some (17, true) },
    { op := .pick 20 (.s 17) (.s 19) (.c (.bool false)) }] none false [0, 3, 4, 5, 6, 20] [3, 4, 5])
  (.cond (.s 20) (.skip [0, 3, 4, 5, 6] [3, 4, 5]) (.exit 0 [0, 3, 4, 5] [3, 4, 5])))
  (.seq (.block 1 (.region [{ op := .faddr 23 0 (.s 5) },
    { op := .take 24 (.s 23), blk := some 5 },
    { op := .faddr 25 0 (.s 3) },
    { op := .load 26 1 false (.s 25), blk := some 3 },
    { op := .mov 27 (.s 6) false },
    { op := .iaddrS 28 1 (.s 26) (.s 27) },
    { op := .load 29 1 false (.s 28), blk := some 99999 },
    { op := .mov 30 (.s 0) false },
    { op := .call (some 31) 26 [(.s 29), (.s 30)] },
    { op := .bslice 32 1 3 [(.s 31)] },
    { op := .append 33 1 3 8 (.s 24) (.s 32) },
    { op := .faddr 34 0 (.s 5) },
    { op := .store (.s 34) (.s 33) 1 true, blk := some 5 }] (some [0, 1, 0, 4, 0, 28, 60, 0, 252, 508, 1023, 2047, 4095]) true [0, 3, 4, 5, 6] [3, 4, 5]))
  (.region [{ op := .mov 21 (.s 6) false },
    { op := .bin 22 .add (.s 21) (.c (.int .i64 1)) },
    { op := .mov 6 (.s 22) false }] none false [0, 3, 4, 5, 6] [3, 4, 5])))
def a6_l1 : ACode := (.seq (.seq (.region [{ op := .mov 35 (.s 7) false },
    { op := .faddr 36 1 (.s 3) },
    { op := .load 37 1 false (.s 36) },
    { op := .len 38 false (.s 37) },
    { op := .bin 39 .lss (.s 35) (.s 38) },
    { op := .mov 40 (.s 39) false },
    { op := .mov 41 (.s 7) false, gd := some (40, true) },
    { op := .bin 42 .lss (.s 41) (.c (.int .i64 3)), gd := some (40, true) },
    { op := .pick 43 (.s 40) (.s 42) (.c (.bool false)) }] none false [0, 3, 4, 5, 7, 43] [3, 4, 5])
  (.cond (.s 43) (.skip [0, 3, 4, 5, 7] [3, 4, 5]) (.exit 2 [0, 3, 4, 5] [3, 4, 5])))
  (.seq (.block 3 (.region [{ op := .faddr 46 1 (.s 5) },
    { op := .take 47 (.s 46), blk := some 5 },
    { op := .faddr 48 1 (.s 3) },
    { op := .load 49 1 false (.s 48), blk := some 3 },
    { op := .mov 50 (.s 7) false },
    { op := .iaddrS 51 2 (.s 49) (.s 50) },
    { op := .iaddrA 52 2 1 (.s 51) (.c (.int .i64 0)) },
    { op := .load 53 1 false (.s 52), blk := some 99999 },
    { op := .mov 54 (.s 0) false },
    { op := .call (some 55) 26 [(.s 53), (.s 54)] },
    { op := .faddr 56 1 (.s 3) },
    { op := .load 57 1 false (.s 56), blk := some 3 },
    { op := .mov 58 (.s 7) false },
    { op := .iaddrS 59 2 (.s 57) (.s 58) },
    { op := .iaddrA 60 2 1 (.s 59) (.c (.int .i64 1)) },
    { op := .load 61 1 false (.s 60), blk := some 99999 },
    { op := .mov 62 (.s 0) false },
    { op := .call (some 63) 26 [(.s 61), (.s 62)] },
    { op := .build 64 [.int .i64 0, .int .i64 0] [(0, 1, (.s 55)), (1, 1, (.s 63))] },
    { op := .bslice 65 2 63 [(.s 64)] },
    { op := .append 66 2 63 16 (.s 47) (.s 65) },
    { op := .faddr 67 1 (.s 5) },
    { op := .store (.s 67) (.s 66) 1 true, blk := some 5 }] (some [0, 1, 0, 4, 0, 28, 60, 124, 0, 508, 0, 1024, 0, 7168, 15360, 31744, 0, 131068, 262140, 524284, 1048575, 2097151, 4194303]) true [0, 3, 4, 5, 7] [3, 4, 5]))
  (.region [{ op := .mov 44 (.s 7) false },
    { op := .bin 45 .add (.s 44) (.c (.int .i64 1)) },
    { op := .mov 7 (.s 45) false }] none false [0, 3, 4, 5, 7] [3, 4, 5])))
def a6_l2 : ACode := (.seq (.seq (.region [{ op := .mov 79 (.s 10) false },
    { op := .faddr 80 2 (.s 3) },
    { op := .load 81 1 false (.s 80) },
    { op := .mov 82 (.s 8) false },
    { op := .iaddrS 83 1 (.s 81) (.s 82) },
    { op := .load 84 1 false (.s 83) },
    { op := .len 85 false (.s 84) },
    { op := .bin 86 .lss (.s 79) (.s 85) },
    { op := .mov 87 (.s 86) false },
    { op := .mov 88 (.s 10) false, gd := some (87, true) },
    { op := .bin 89 .lss (.s 88) (.c (.int .i64 3)), gd := some (87, true) },
    { op := .pick 90 (.s 87) (.s 89) (.c (.bool false)) }] none false [0, 3, 4, 5, 8, 9, 10, 90] [3, 4, 5])
  (.cond (.s 90) (.skip [0, 3, 4, 5, 8, 9, 10] [3, 4, 5]) (.exit 6 [0, 3, 4, 5, 8, 9] [3, 4, 5])))
  (.seq (.block 7 (.region [{ op := .mov 93 (.s 9) true },
    { op := .faddr 94 2 (.s 3) },
    { op := .load 95 1 false (.s 94) },
    { op := .mov 96 (.s 8) false },
    { op := .iaddrS 97 1 (.s 95) (.s 96) },
    { op := .load 98 1 false (.s 97) },
    { op := .mov 99 (.s 10) false },
    { op := .iaddrS 100 1 (.s 98) (.s 99) },
    { op := .load 101 1 false (.s 100) },
    { op := .mov 102 (.s 0) false },
    { op := .call (some 103) 26 [(.s 101), (.s 102)] },
    { op := .bslice 104 1 3 [(.s 103)] },
    { op := .append 105 1 3 8 (.s 93) (.s 104) },
    { op := .mov 9 (.s 105) true }] none false [0, 3, 4, 5, 8, 9, 10] [3, 4, 5]))
  (.region [{ op := .mov 91 (.s 10) false },
    { op := .bin 92 .add (.s 91) (.c (.int .i64 1)) },
    { op := .mov 10 (.s 92) false }] none false [0, 3, 4, 5, 8, 9, 10] [3, 4, 5])))
def a6_l3 : ACode := (.seq (.seq (.region [{ op := .mov 68 (.s 8) false },
    { op := .faddr 69 2 (.s 3) },
    { op := .load 70 1 false (.s 69) },
    { op := .len 71 false (.s 70) },
    { op := .bin 72 .lss (.s 68) (.s 71) },
    { op := .mov 73 (.s 72) false },
    { op := .mov 74 (.s 8) false, gd := some (73, true) },
    { op := .bin 75 .lss (.s 74) (.c (.int .i64 2)), gd := some (73, true) },
    { op := .pick 76 (.s 73) (.s 75) (.c (.bool false)) }] none false [0, 3, 4, 5, 8, 76] [3, 4, 5])
  (.cond (.s 76) (.skip [0, 3, 4, 5, 8] [3, 4, 5]) (.exit 4 [4, 5] [4, 5])))
  (.seq (.block 5 (.seq (.region [{ op := .nils 9 1 3 }] none false [0, 3, 4, 5, 8, 9] [3, 4, 5])
  (.seq (.seq (.region [{ op := .mov 10 (.c (.int .i64 0)) false }] none false [0, 3, 4, 5, 8, 9, 10] [3, 4, 5])
  (.block 6 (.loop a6_l2)))
  (.region [{ op := .faddr 106 2 (.s 5) },
    { op := .take 107 (.s 106) },
    { op := .mov 108 (.s 9) true },
    { op := .bslice 109 1 22 [(.s 108)] },
    { op := .append 110 1 22 24 (.s 107) (.s 109) },
    { op := .faddr 111 2 (.s 5) },
    { op := .store (.s 111) (.s 110) 1 true }] none false [0, 3, 4, 5, 8] [3, 4, 5]))))
  (.region [{ op := .mov 77 (.s 8) false },
    { op := .bin 78 .add (.s 77) (.c (.int .i64 1)) },
    { op := .mov 8 (.s 78) false }] none false [0, 3, 4, 5, 8] [3, 4, 5])))
def a6 : AFun := { n := 2, N := 113, res := [.cell 4 3 true], body :=
  (.seq (.region [{ op := .box 3 false (.s 1) },
    { op := .alloc 4 false [.slice 1 [], .slice 2 [], .slice 1 []] [(0, 3), (1, 63), (2, 22)] }] none false [0, 3, 4] [3, 4])
  (.seq (.region [{ op := .build 11 [.slice 1 [], .slice 2 [], .slice 1 []] [] },
    { op := .alloc 5 false [.slice 1 [], .slice 2 [], .slice 1 []] [(0, 3), (1, 63), (2, 22)] },
    { op := .store (.s 5) (.s 11) 3 false [(0, 3), (1, 63), (2, 22)] }] none false [0, 3, 4, 5] [3, 4, 5])
  (.seq (.seq (.region [{ op := .mov 6 (.c (.int .i64 0)) false }] none false [0, 3, 4, 5, 6] [3, 4, 5])
  (.block 0 (.loop a6_l0)))
  (.seq (.seq (.region [{ op := .mov 7 (.c (.int .i64 0)) false }] none false [0, 3, 4, 5, 7] [3, 4, 5])
  (.block 2 (.loop a6_l1)))
  (.seq (.seq (.region [{ op := .mov 8 (.c (.int .i64 0)) false }] none false [0, 3, 4, 5, 8] [3, 4, 5])
  (.block 4 (.loop a6_l3)))
  (.seq (.region [{ op := .load 112 3 true (.s 5) },
    { op := .store (.s 4) (.s 112) 3 false }] none false [4] [4])
  .ret)))))) }

-- tactician/tacticianref18.TameKeys
def a7_l0 : ACode := (.seq (.seq (.region [{ op := .mov 7 (.s 6) false },
    { op := .mov 8 (.s 1) false },
    { op := .len 9 false (.s 8) },
    { op := .bin 10 .lss (.s 7) (.s 9) },
    { op := .mov 11 (.s 10) false },
    { op := .mov 12 (.s 6) false, gd := some (11, true) },
    { op := .bin 13 .lss (.s 12) (.c (.int .i64 6)), gd := some (11, true) },
    { op := .pick 14 (.s 11) (.s 13) (.c (.bool false)) }] none false [0, 1, 5, 6, 14] [])
  (.cond (.s 14) (.skip [0, 1, 5, 6] []) (.exit 0 [5] [])))
  (.seq (.block 1 (.region [{ op := .mov 17 (.s 5) true },
    { op := .mov 18 (.s 1) false },
    { op := .mov 19 (.s 6) false },
    { op := .iaddrS 20 2 (.s 18) (.s 19) },
    { op := .faddr 21 0 (.s 20) },
    { op := .load 22 1 false (.s 21), blk := some 99999 },
    { op := .mov 23 (.s 0) false },
    { op := .call (some 24) 26 [(.s 22), (.s 23)] },
    { op := .mov 25 (.s 1) false },
    { op := .mov 26 (.s 6) false },
    { op := .iaddrS 27 2 (.s 25) (.s 26) },
    { op := .faddr 28 1 (.s 27) },
    { op := .load 29 1 false (.s 28), blk := some 99999 },
    { op := .build 30 [.int .i64 0, .bool false] [(0, 1, (.s 24)), (1, 1, (.s 29))] },
    { op := .bslice 31 2 52 [(.s 30)] },
    { op := .append 32 2 52 16 (.s 17) (.s 31) },
    { op := .mov 5 (.s 32) true }] (some [0, 0, 0, 6, 14, 30, 0, 126, 0, 0, 768, 1792, 3840, 8190, 16382, 32767, 65535]) true [0, 1, 5, 6] []))
  (.region [{ op := .mov 15 (.s 6) false },
    { op := .bin 16 .add (.s 15) (.c (.int .i64 1)) },
    { op := .mov 6 (.s 16) false }] none false [0, 1, 5, 6] [])))
def a7 : AFun := { n := 2, N := 34, res := [.tmp 4], body :=
  (.seq (.region [{ op := .nils 4 2 52 }] none false [0, 1] [])
  (.seq (.region [{ op := .nils 5 2 52 }] none false [0, 1, 5] [])
  (.seq (.seq (.region [{ op := .mov 6 (.c (.int .i64 0)) false }] none false [0, 1, 5, 6] [])
  (.block 0 (.loop a7_l0)))
  (.seq (.region [{ op := .mov 33 (.s 5) true },
    { op := .mov 4 (.s 33) true }] none false [4] [])
  .ret)))) }

-- tactician/tacticianlaw18.rows
def a8_l0 : ACode := (.seq (.seq (.region [{ op := .mov 9 (.s 8) false },
    { op := .mov 10 (.s 0) false },
    { op := .bin 11 .lss (.s 9) (.s 10) }] none false [0, 1, 2, 7, 8, 11] [])
  (.cond (.s 11) (.skip [0, 1, 2, 7, 8] []) (.exit 0 [1, 2, 7] [])))
  (.seq (.block 1 (.region [{ op := .mov 14 (.s 7) true },
    { op := .mov 15 (.s 8) false },
    { op := .bin 16 .rem (.s 15) (.c (.int .i64 2)) },
    { op := .bin 17 .eql (.s 16) (.c (.int .i64 1)) },
    { op := .build 18 [.int .i64 0, .bool false] [(0, 1, (.c (.int .i64 1))), (1, 1, (.s 17))] },
    { op := .bslice 19 2 67 [(.s 18)] },
    { op := .append 20 2 67 16 (.s 14) (.s 19) },
    { op := .mov 7 (.s 20) true }] none false [0, 1, 2, 7, 8] []))
  (.region [{ op := .mov 12 (.s 8) false },
    { op := .bin 13 .add (.s 12) (.c (.int .i64 1)) },
    { op := .mov 8 (.s 13) false }] none false [0, 1, 2, 7, 8] [])))
def a8 : AFun := { n := 3, N := 25, res := [.tmp 6], body :=
  (.seq (.region [{ op := .nils 6 1 69 }] none false [0, 1, 2] [])
  (.seq (.region [{ op := .nils 7 2 67 }] none false [0, 1, 2, 7] [])
  (.seq (.seq (.region [{ op := .mov 8 (.c (.int .i64 0)) false }] none false [0, 1, 2, 7, 8] [])
  (.block 0 (.loop a8_l0)))
  (.seq (.region [{ op := .mov 21 (.s 7) true },
    { op := .mov 22 (.s 1) true },
    { op := .mov 23 (.s 2) false },
    { op := .call (some 24) 27 [(.s 21), (.s 22), (.s 23)] },
    { op := .mov 6 (.s 24) true }] none false [6] [])
  .ret)))) }

-- tactician/tacticianref18.Kept
def a9_l0 : ACode := (.seq (.seq (.region [{ op := .mov 24 (.s 8) false },
    { op := .faddr 25 0 (.s 2) },
    { op := .load 26 1 false (.s 25) },
    { op := .len 27 false (.s 26) },
    { op := .bin 28 .lss (.s 24) (.s 27) },
    { op := .mov 29 (.s 28) false },
    { op := .mov 30 (.s 5) false, gd := some (29, true) },
    { op := .len 31 false (.s 30), gd := some (29, true) },
    { op := .bin 32 .gtr (.s 31) (.c (.int .i64 0)), gd := some (29, true) },
    { op := .pick 33 (.s 29) (.s 32) (.c (.bool false)) }] none false [1, 2, 5, 6, 7, 8, 33] [2, 23])
  (.cond (.s 33) (.skip [1, 2, 5, 6, 7, 8] [2, 23]) (.exit 2 [1, 2, 5, 6, 7] [2, 23])))
  (.seq (.block 3 (.region [{ op := .mov 36 (.s 7) false },
    { op := .faddr 37 0 (.s 2) },
    { op := .load 38 1 false (.s 37), blk := some 2 },
    { op := .mov 39 (.s 8) false },
    { op := .iaddrS 40 1 (.s 38) (.s 39) },
    { op := .load 41 1 false (.s 40), blk := some 99999 },
    { op := .mov 42 (.s 5) false },
    { op := .iaddrS 43 1 (.s 42) (.c (.int .i64 0)) },
    { op := .load 44 1 false (.s 43), blk := some 99999 },
    { op := .faddr 45 0 (.s 2) },
    { op := .load 46 1 false (.s 45), blk := some 2 },
    { op := .mov 47 (.s 8) false },
    { op := .iaddrS 48 1 (.s 46) (.s 47) },
    { op := .load 49 1 false (.s 48), blk := some 99999 },
    { op := .iaddrS 50 3 (.s 44) (.s 49) },
    { op := .load 51 3 true (.s 50), blk := some 99999 },
    { op := .iaddrS 52 3 (.s 36) (.s 41) },
    { op := .store (.s 52) (.s 51) 3 false }] (some [0, 0, 2, 0, 14, 30, 0, 64, 192, 0, 512, 0, 3584, 7680, 16320, 32704, 65535, 131071]) true [1, 2, 5, 6, 7, 8] [2, 23]))
  (.region [{ op := .mov 34 (.s 8) false },
    { op := .bin 35 .add (.s 34) (.c (.int .i64 1)) },
    { op := .mov 8 (.s 35) false }] none false [1, 2, 5, 6, 7, 8] [2, 23])))
def a9_l1 : ACode := (.seq (.seq (.region [{ op := .mov 60 (.s 10) false },
    { op := .faddr 61 1 (.s 2) },
    { op := .load 62 1 false (.s 61) },
    { op := .len 63 false (.s 62) },
    { op := .bin 64 .lss (.s 60) (.s 63) }] none false [1, 2, 5, 6, 7, 9, 10, 64] [2, 23])
  (.cond (.s 64) (.skip [1, 2, 5, 6, 7, 9, 10] [2, 23]) (.exit 6 [1, 2, 5, 6, 7, 9] [2, 23])))
  (.seq (.block 7 (.region [{ op := .mov 67 (.s 7) false },
    { op := .faddr 68 1 (.s 2) },
    { op := .load 69 1 false (.s 68), blk := some 2 },
    { op := .mov 70 (.s 10) false },
    { op := .iaddrS 71 2 (.s 69) (.s 70) },
    { op := .iaddrA 72 2 1 (.s 71) (.c (.int .i64 1)) },
    { op := .load 73 1 false (.s 72), blk := some 99999 },
    { op := .mov 74 (.s 7) false },
    { op := .faddr 75 1 (.s 2) },
    { op := .load 76 1 false (.s 75), blk := some 2 },
    { op := .mov 77 (.s 10) false },
    { op := .iaddrS 78 2 (.s 76) (.s 77) },
    { op := .iaddrA 79 2 1 (.s 78) (.c (.int .i64 0)) },
    { op := .load 80 1 false (.s 79), blk := some 99999 },
    { op := .iaddrS 81 3 (.s 74) (.s 80) },
    { op := .load 82 3 true (.s 81) },
    { op := .iaddrS 83 3 (.s 67) (.s 73) },
    { op := .store (.s 83) (.s 82) 3 false }] (some [0, 0, 2, 0, 14, 30, 62, 0, 0, 256, 0, 1792, 3840, 7936, 16256, 32640, 65535, 131071]) true [1, 2, 5, 6, 7, 9, 10] [2, 23]))
  (.region [{ op := .mov 65 (.s 10) false },
    { op := .bin 66 .add (.s 65) (.c (.int .i64 1)) },
    { op := .mov 10 (.s 66) false }] none false [1, 2, 5, 6, 7, 9, 10] [2, 23])))
def a9_l2 : ACode := (.seq (.seq (.region [{ op := .mov 53 (.s 9) false },
    { op := .faddr 54 1 (.s 2) },
    { op := .load 55 1 false (.s 54) },
    { op := .len 56 false (.s 55) },
    { op := .bin 57 .lss (.s 53) (.s 56) }] none false [1, 2, 5, 6, 7, 9, 57] [2, 23])
  (.cond (.s 57) (.skip [1, 2, 5, 6, 7, 9] [2, 23]) (.exit 4 [1, 2, 5, 6, 7] [2, 23])))
  (.seq (.block 5 (.seq (.region [{ op := .mov 10 (.c (.int .i64 0)) false }] none false [1, 2, 5, 6, 7, 9, 10] [2, 23])
  (.block 6 (.loop a9_l1))))
  (.region [{ op := .mov 58 (.s 9) false },
    { op := .bin 59 .add (.s 58) (.c (.int .i64 1)) },
    { op := .mov 9 (.s 59) false }] none false [1, 2, 5, 6, 7, 9] [2, 23])))
def a9_l3 : ACode := (.seq (.seq (.region [{ op := .mov 12 (.s 6) false },
    { op := .mov 13 (.s 1) false },
    { op := .len 14 false (.s 13) },
    { op := .bin 15 .lss (.s 12) (.s 14) }] none false [1, 2, 5, 6, 15] [2])
  (.cond (.s 15) (.skip [1, 2, 5, 6] [2]) (.exit 0 [5] [])))
  (.seq (.block 1 (.seq (.region [{ op := .bslice 18 3 71 [] },
    { op := .mov 19 (.s 1) false },
    { op := .mov 20 (.s 6) false },
    { op := .iaddrS 21 1 (.s 19) (.s 20) },
    { op := .load 22 1 false (.s 21) },
    { op := .cloneL 23 3 71 32 true (.s 18) (.s 22) },
    { op := .mov 7 (.s 23) true }] none false [1, 2, 5, 6, 7] [2, 23])
  (.seq (.seq (.region [{ op := .mov 8 (.c (.int .i64 0)) false }] none false [1, 2, 5, 6, 7, 8] [2, 23])
  (.block 2 (.loop a9_l0)))
  (.seq (.seq (.region [{ op := .mov 9 (.c (.int .i64 0)) false }] none false [1, 2, 5, 6, 7, 9] [2, 23])
  (.block 4 (.loop a9_l2)))
  (.seq (.freeze 23 (.region [{ op := .bslice 84 1 69 [] },
    { op := .mov 85 (.s 5) false },
    { op := .append 86 1 69 24 (.s 84) (.s 85) },
    { op := .mov 11 (.s 86) true }] none false [1, 2, 5, 6, 7, 11] [2, 23]))
  (.seq (.region [{ op := .mov 87 (.s 11) true },
    { op := .mov 88 (.s 7) true },
    { op := .bslice 89 1 69 [(.s 88)] },
    { op := .append 90 1 69 24 (.s 87) (.s 89) },
    { op := .mov 11 (.s 90) true }] none false [1, 2, 5, 6, 11] [2])
  (.seq (.region [{ op := .load 91 3 true (.s 2) },
    { op := .mov 92 (.s 11) false },
    { op := .call (some 93) 15 [(.s 91), (.s 92)] }] none false [1, 2, 5, 6, 11, 93] [2])
  (.cond (.s 93) (.region [{ op := .mov 94 (.s 11) true },
    { op := .mov 5 (.s 94) true }] none false [1, 2, 5, 6] [2]) (.skip [1, 2, 5, 6] [2])))))))))
  (.region [{ op := .mov 16 (.s 6) false },
    { op := .bin 17 .add (.s 16) (.c (.int .i64 1)) },
    { op := .mov 6 (.s 17) false }] none false [1, 2, 5, 6] [2])))
def a9 : AFun := { n := 2, N := 96, res := [.tmp 4], body :=
  (.seq (.region [{ op := .box 2 false (.s 0) },
    { op := .nils 4 1 69 }] none false [1, 2] [2])
  (.seq (.region [{ op := .nils 5 1 69 }] none false [1, 2, 5] [2])
  (.seq (.seq (.region [{ op := .mov 6 (.c (.int .i64 0)) false }] none false [1, 2, 5, 6] [2])
  (.block 0 (.loop a9_l3)))
  (.seq (.region [{ op := .mov 95 (.s 5) true },
    { op := .mov 4 (.s 95) true }] none false [4] [])
  .ret)))) }

-- tactician/tacticianref02.Ordered
def a10_l0 : ACode := (.seq (.seq (.region [{ op := .mov 29 (.s 8) false },
    { op := .mov 30 (.s 5) false },
    { op := .len 31 false (.s 30) },
    { op := .bin 32 .lss (.s 29) (.s 31) },
    { op := .mov 33 (.s 32) false },
    { op := .mov 34 (.s 9) false, gd := some (33, false) },
    { op := .mov 35 (.s 6) false, gd := some (33, false) },
    { op := .len 36 false (.s 35), gd := some (33, false) },
    { op := .bin 37 .lss (.s 34) (.s 36), gd := some (33, false) },
    { op := .pick 38 (.s 33) (.c (.bool true)) (.s 37) }] none false [1, 5, 6, 7, 8, 9, 38] [])
  (.cond (.s 38) (.skip [1, 5, 6, 7, 8, 9] []) (.exit 0 [7] [])))
  (.block 1 (.seq (.region [{ op := .mov 39 (.s 9) false },
    { op := .mov 40 (.s 6) false },
    { op := .len 41 false (.s 40) },
    { op := .bin 42 .eql (.s 39) (.s 41) },
    { op := .mov 43 (.s 42) false },
    { op := .mov 44 (.s 8) false, gd := some (43, false) },
    { op := .mov 45 (.s 5) false, gd := some (43, false) },
    { op := .len 46 false (.s 45), gd := some (43, false) },
    { op := .bin 47 .lss (.s 44) (.s 46), gd := some (43, false) },
    { op := .mov 48 (.s 47) false, gd := some (43, false) },
    { op := .mov 49 (.s 1) false, gd := some (48, true) },
    { op := .mov 50 (.s 5) false, gd := some (48, true) },
    { op := .mov 51 (.s 8) false, gd := some (48, true) },
    { op := .iaddrS 52 1 (.s 50) (.s 51), gd := some (48, true) },
    { op := .load 53 1 false (.s 52), gd := some (48, true), blk := some 99999 },
    { op := .mov 54 (.s 6) false, gd := some (48, true) },
    { op := .mov 55 (.s 9) false, gd := some (48, true) },
    { op := .iaddrS 56 1 (.s 54) (.s 55), gd := some (48, true) },
    { op := .load 57 1 false (.s 56), gd := some (48, true), blk := some 99999 },
    { op := .call (some 58) 29 [(.s 49), (.s 53), (.s 57)], gd := some (48, true) },
    { op := .bin 59 .leq (.s 58) (.c (.int .i64 0)), gd := some (48, true) },
    { op := .pick 60 (.s 48) (.s 59) (.c (.bool false)), gd := some (43, false) },
    { op := .pick 61 (.s 43) (.c (.bool true)) (.s 60) }] (some [0, 0, 2, 7, 15, 31, 31, 95, 255, 511, 1023, 1023, 1023, 7167, 15359, 1023, 1023, 99327, 230399, 524287, 1048575, 2097151, 4194303]) true [1, 5, 6, 7, 8, 9, 61] [])
  (.cond (.s 61) (.seq (.region [{ op := .mov 62 (.s 7) true },
    { op := .mov 63 (.s 5) false },
    { op := .mov 64 (.s 8) false },
    { op := .iaddrS 65 1 (.s 63) (.s 64) },
    { op := .load 66 1 false (.s 65) },
    { op := .bslice 67 1 69 [(.s 66)] },
    { op := .append 68 1 69 24 (.s 62) (.s 67) },
    { op := .mov 7 (.s 68) true }] none false [1, 5, 6, 7, 8, 9] [])
  (.region [{ op := .mov 69 (.s 8) false },
    { op := .bin 70 .add (.s 69) (.c (.int .i64 1)) },
    { op := .mov 8 (.s 70) false }] none false [1, 5, 6, 7, 8, 9] [])) (.seq (.region [{ op := .mov 71 (.s 7) true },
    { op := .mov 72 (.s 6) false },
    { op := .mov 73 (.s 9) false },
    { op := .iaddrS 74 1 (.s 72) (.s 73) },
    { op := .load 75 1 false (.s 74) },
    { op := .bslice 76 1 69 [(.s 75)] },
    { op := .append 77 1 69 24 (.s 71) (.s 76) },
    { op := .mov 7 (.s 77) true }] none false [1, 5, 6, 7, 8, 9] [])
  (.region [{ op := .mov 78 (.s 9) false },
    { op := .bin 79 .add (.s 78) (.c (.int .i64 1)) },
    { op := .mov 9 (.s 79) false }] none false [1, 5, 6, 7, 8, 9] []))))))
def a10 : AFun := { n := 2, N := 81, res := [.tmp 4], body :=
  (.seq (.region [{ op := .nils 4 1 69 }] none false [0, 1] [])
  (.seq (.seq (.region [{ op := .mov 10 (.s 0) false },
    { op := .len 11 false (.s 10) },
    { op := .bin 12 .lss (.s 11) (.c (.int .i64 2)) }] none false [0, 1, 12] [])
  (.cond (.s 12) (.seq (.region [{ op := .mov 13 (.s 0) true },
    { op := .call (some 14) 28 [(.s 13)] },
    { op := .mov 4 (.s 14) true }] none false [4] [])
  .ret) (.skip [0, 1] [])))
  (.seq (.region [{ op := .mov 15 (.s 0) false },
    { op := .mov 16 (.s 0) false },
    { op := .len 17 false (.s 16) },
    { op := .bin 18 .quo (.s 17) (.c (.int .i64 2)) },
    { op := .slice 19 1 (.s 15) none (some (.s 18)) },
    { op := .mov 20 (.s 1) false },
    { op := .call (some 21) 10 [(.s 19), (.s 20)] },
    { op := .mov 22 (.s 0) false },
    { op := .mov 23 (.s 0) false },
    { op := .len 24 false (.s 23) },
    { op := .bin 25 .quo (.s 24) (.c (.int .i64 2)) },
    { op := .slice 26 1 (.s 22) (some (.s 25)) none },
    { op := .mov 27 (.s 1) false },
    { op := .call (some 28) 10 [(.s 26), (.s 27)] },
    { op := .mov 5 (.s 21) true },
    { op := .mov 6 (.s 28) true }] (some [0, 0, 2, 6, 15, 0, 63, 0, 0, 256, 768, 1920, 0, 8191, 16383, 32767]) true [1, 5, 6] [])
  (.seq (.region [{ op := .nils 7 1 69 }] none false [1, 5, 6, 7] [])
  (.seq (.region [{ op := .mov 8 (.c (.int .i64 0)) false },
    { op := .mov 9 (.c (.int .i64 0)) false }] none false [1, 5, 6, 7, 8, 9] [])
  (.seq (.block 0 (.loop a10_l0))
  (.seq (.region [{ op := .mov 80 (.s 7) true },
    { op := .mov 4 (.s 80) true }] none false [4] [])
  .ret))))))) }

-- tactician/tacticianlaw18.some
def a11 : AFun := { n := 1, N := 8, res := [.tmp 2], body :=
  (.seq (.region [{ op := .nils 2 1 69 }] none false [0] [])
  (.seq (.region [{ op := .mov 3 (.s 0) false },
    { op := .mov 4 (.s 0) true },
    { op := .len 5 false (.s 4) },
    { op := .mm 6 false (.s 5) (.c (.int .i64 30)) },
    { op := .slice 7 1 (.s 3) none (some (.s 6)) },
    { op := .mov 2 (.s 7) true }] none false [2] [])
  .ret)) }

-- tactician/traits.Holds
def a12 : AFun := { n := 3, N := 37, res := [.tmp 6, .tmp 7], body :=
  (.seq (.region [{ op := .box 4 false (.s 1) },
    { op := .box 5 false (.s 2) },
    { op := .mov 6 (.c (.bool false)) false },
    { op := .mov 7 (.c (.int .i64 0)) false }] none false [0, 4, 5] [4, 5])
  (.seq (.seq (.freeze 5 (.region [{ op := .mov 10 (.s 0) false },
    { op := .load 11 3 true (.s 4) },
    { op := .call (some 12) 30 [(.s 10), (.s 11), (.c (.slice 1 []))] },
    { op := .mov 8 (.s 12) false }] none false [0, 4, 5, 8] [4, 5]))
  (.seq (.region [{ op := .mov 13 (.s 8) false },
    { op := .bin 14 .neq (.s 13) (.c (.int .i64 0)) }] none false [0, 4, 5, 8, 14] [4, 5])
  (.cond (.s 14) (.seq (.region [{ op := .mov 15 (.s 8) false },
    { op := .mov 6 (.c (.bool false)) false },
    { op := .mov 7 (.s 15) false }] none false [6, 7] [])
  .ret) (.skip [0, 4, 5] [4, 5]))))
  (.seq (.seq (.region [{ op := .mov 16 (.s 0) false },
    { op := .load 17 1 false (.s 5) },
    { op := .call (some 18) 31 [(.s 16), (.s 17)] },
    { op := .un 19 .not (.s 18) }] none false [4, 5, 19] [4, 5])
  (.cond (.s 19) (.seq (.region [{ op := .mov 6 (.c (.bool false)) false },
    { op := .mov 7 (.c (.int .i64 20)) false }] none false [6, 7] [])
  .ret) (.skip [4, 5] [4, 5])))
  (.seq (.region [{ op := .faddr 20 0 (.s 4) },
    { op := .load 21 1 false (.s 20) },
    { op := .mkfn 22 (.func 33) [] [(.s 5)] },
    { op := .call (some 23) 32 [(.s 21), (.s 22)] },
    { op := .mov 24 (.s 23) false },
    { op := .faddr 25 1 (.s 4), gd := some (24, true) },
    { op := .load 26 1 false (.s 25), gd := some (24, true) },
    { op := .mkfn 27 (.func 37) [] [(.s 5)], gd := some (24, true) },
    { op := .call (some 28) 36 [(.s 26), (.s 27)], gd := some (24, true) },
    { op := .pick 29 (.s 24) (.s 28) (.c (.bool false)) },
    { op := .mov 30 (.s 29) false },
    { op := .faddr 31 2 (.s 4), gd := some (30, true) },
    { op := .load 32 1 false (.s 31), gd := some (30, true) },
    { op := .mkfn 33 (.func 40) [] [(.s 5)], gd := some (30, true) },
    { op := .call (some 34) 39 [(.s 32), (.s 33)], gd := some (30, true) },
    { op := .pick 35 (.s 30) (.s 34) (.c (.bool false)) },
    { op := .mov 9 (.s 35) false }] none false [9] [])
  (.seq (.region [{ op := .mov 36 (.s 9) false },
    { op := .mov 6 (.s 36) false },
    { op := .mov 7 (.c (.int .i64 0)) false }] none false [6, 7] [])
  .ret))))) }

-- tactician/traits.Sorted
def a13 : AFun := { n := 3, N := 24, res := [.tmp 6, .tmp 7], body :=
  (.seq (.region [{ op := .box 4 false (.s 1) },
    { op := .mov 6 (.c (.bool false)) false },
    { op := .mov 7 (.c (.int .i64 0)) false }] none false [0, 2, 4] [4])
  (.seq (.seq (.freeze 4 (.region [{ op := .mov 9 (.s 0) false },
    { op := .build 10 [.slice 1 [], .slice 2 [], .slice 1 []] [] },
    { op := .load 11 1 false (.s 4) },
    { op := .bslice 12 1 27 [(.s 11)] },
    { op := .call (some 13) 30 [(.s 9), (.s 10), (.s 12)] },
    { op := .mov 8 (.s 13) false }] none false [0, 2, 4, 8] [4]))
  (.seq (.region [{ op := .mov 14 (.s 8) false },
    { op := .bin 15 .neq (.s 14) (.c (.int .i64 0)) }] none false [0, 2, 4, 8, 15] [4])
  (.cond (.s 15) (.seq (.region [{ op := .mov 16 (.s 8) false },
    { op := .mov 6 (.c (.bool false)) false },
    { op := .mov 7 (.s 16) false }] none false [6, 7] [])
  .ret) (.skip [0, 2, 4] [4]))))
  (.seq (.seq (.region [{ op := .mov 17 (.s 0) false },
    { op := .mov 18 (.s 2) false },
    { op := .call (some 19) 31 [(.s 17), (.s 18)] },
    { op := .un 20 .not (.s 19) }] none false [2, 4, 20] [4])
  (.cond (.s 20) (.seq (.region [{ op := .mov 6 (.c (.bool false)) false },
    { op := .mov 7 (.c (.int .i64 20)) false }] none false [6, 7] [])
  .ret) (.skip [2, 4] [4])))
  (.seq (.region [{ op := .mov 21 (.s 2) true },
    { op := .mkfn 22 (.func 43) [] [(.s 4)] },
    { op := .call (some 23) 42 [(.s 21), (.s 22)] },
    { op := .mov 6 (.s 23) false },
    { op := .mov 7 (.c (.int .i64 0)) false }] none false [6, 7] [])
  .ret)))) }

-- tactician/tacticianref18.Rows
def a14_l0 : ACode := (.seq (.seq (.region [{ op := .mov 6 (.s 5) false },
    { op := .mov 7 (.s 1) false },
    { op := .len 8 false (.s 7) },
    { op := .bin 9 .lss (.s 6) (.s 8) }] none false [0, 1, 5, 9] [])
  (.cond (.s 9) (.skip [0, 1, 5] []) (.exit 0 [1] [])))
  (.seq (.block 1 (.seq (.region [{ op := .mov 12 (.s 1) false },
    { op := .mov 13 (.s 5) false },
    { op := .iaddrS 14 1 (.s 12) (.s 13) },
    { op := .load 15 1 false (.s 14) },
    { op := .len 16 false (.s 15) },
    { op := .mov 17 (.s 0) false },
    { op := .bin 18 .neq (.s 16) (.s 17) }] none false [0, 1, 5, 18] [])
  (.cond (.s 18) (.seq (.region [{ op := .mov 4 (.c (.bool false)) false }] none false [4] [])
  .ret) (.skip [0, 1, 5] []))))
  (.region [{ op := .mov 10 (.s 5) false },
    { op := .bin 11 .add (.s 10) (.c (.int .i64 1)) },
    { op := .mov 5 (.s 11) false }] none false [0, 1, 5] [])))
def a14 : AFun := { n := 2, N := 26, res := [.tmp 4], body :=
  (.seq (.region [{ op := .mov 4 (.c (.bool false)) false }] none false [0, 1] [])
  (.seq (.seq (.region [{ op := .mov 5 (.c (.int .i64 0)) false }] none false [0, 1, 5] [])
  (.block 0 (.loop a14_l0)))
  (.seq (.region [{ op := .mov 19 (.s 1) false },
    { op := .len 20 false (.s 19) },
    { op := .bin 21 .leq (.s 20) (.c (.int .i64 20000)) },
    { op := .mov 22 (.s 21) false },
    { op := .mov 23 (.s 1) true, gd := some (22, true) },
    { op := .call (some 24) 45 [(.s 23)], gd := some (22, true) },
    { op := .pick 25 (.s 22) (.s 24) (.c (.bool false)) },
    { op := .mov 4 (.s 25) false }] none false [4] [])
  .ret))) }

-- tactician/tacticianref18.Holds
def a15_l0 : ACode := (.seq (.seq (.region [{ op := .mov 16 (.s 6) false },
    { op := .faddr 17 0 (.s 2) },
    { op := .load 18 1 false (.s 17) },
    { op := .len 19 false (.s 18) },
    { op := .bin 20 .lss (.s 16) (.s 19) }] none false [1, 2, 5, 6, 20] [2])
  (.cond (.s 20) (.skip [1, 2, 5, 6] [2]) (.exit 2 [1, 2, 5] [2])))
  (.seq (.block 3 (.seq (.region [{ op := .mov 23 (.s 1) false },
    { op := .mov 24 (.s 5) false },
    { op := .iaddrS 25 1 (.s 23) (.s 24) },
    { op := .load 26 1 false (.s 25), blk := some 99999 },
    { op := .faddr 27 0 (.s 2) },
    { op := .load 28 1 false (.s 27), blk := some 2 },
    { op := .mov 29 (.s 6) false },
    { op := .iaddrS 30 1 (.s 28) (.s 29) },
    { op := .load 31 1 false (.s 30), blk := some 99999 },
    { op := .iaddrS 32 3 (.s 26) (.s 31) },
    { op := .load 33 3 true (.s 32), blk := some 99999 },
    { op := .mov 34 (.s 1) false },
    { op := .iaddrS 35 1 (.s 34) (.c (.int .i64 0)) },
    { op := .load 36 1 false (.s 35), blk := some 99999 },
    { op := .faddr 37 0 (.s 2) },
    { op := .load 38 1 false (.s 37), blk := some 2 },
    { op := .mov 39 (.s 6) false },
    { op := .iaddrS 40 1 (.s 38) (.s 39) },
    { op := .load 41 1 false (.s 40), blk := some 99999 },
    { op := .iaddrS 42 3 (.s 36) (.s 41) },
    { op := .load 43 3 true (.s 42), blk := some 99999 },
    { op := .eqagg 44 true [0, 0, 2] (.s 33) (.s 43) }] (some [0, 0, 3, 7, 0, 16, 0, 112, 240, 511, 1023, 0, 2048, 6144, 0, 16384, 0, 114688, 245760, 522240, 1046528, 2097151]) true [1, 2, 5, 6, 44] [2])
  (.cond (.s 44) (.seq (.region [{ op := .mov 4 (.c (.bool false)) false }] none false [4] [])
  .ret) (.skip [1, 2, 5, 6] [2]))))
  (.region [{ op := .mov 21 (.s 6) false },
    { op := .bin 22 .add (.s 21) (.c (.int .i64 1)) },
    { op := .mov 6 (.s 22) false }] none false [1, 2, 5, 6] [2])))
def a15_l1 : ACode := (.seq (.seq (.region [{ op := .mov 45 (.s 7) false },
    { op := .faddr 46 1 (.s 2) },
    { op := .load 47 1 false (.s 46) },
    { op := .len 48 false (.s 47) },
    { op := .bin 49 .lss (.s 45) (.s 48) }] none false [1, 2, 5, 7, 49] [2])
  (.cond (.s 49) (.skip [1, 2, 5, 7] [2]) (.exit 4 [1, 2, 5] [2])))
  (.seq (.block 5 (.seq (.region [{ op := .mov 52 (.s 1) false },
    { op := .mov 53 (.s 5) false },
    { op := .iaddrS 54 1 (.s 52) (.s 53) },
    { op := .load 55 1 false (.s 54), blk := some 99999 },
    { op := .faddr 56 1 (.s 2) },
    { op := .load 57 1 false (.s 56), blk := some 2 },
    { op := .mov 58 (.s 7) false },
    { op := .iaddrS 59 2 (.s 57) (.s 58) },
    { op := .iaddrA 60 2 1 (.s 59) (.c (.int .i64 0)) },
    { op := .load 61 1 false (.s 60), blk := some 99999 },
    { op := .iaddrS 62 3 (.s 55) (.s 61) },
    { op := .load 63 3 true (.s 62), blk := some 99999 },
    { op := .mov 64 (.s 1) false },
    { op := .mov 65 (.s 5) false },
    { op := .iaddrS 66 1 (.s 64) (.s 65) },
    { op := .load 67 1 false (.s 66), blk := some 99999 },
    { op := .faddr 68 1 (.s 2) },
    { op := .load 69 1 false (.s 68), blk := some 2 },
    { op := .mov 70 (.s 7) false },
    { op := .iaddrS 71 2 (.s 69) (.s 70) },
    { op := .iaddrA 72 2 1 (.s 71) (.c (.int .i64 1)) },
    { op := .load 73 1 false (.s 72), blk := some 99999 },
    { op := .iaddrS 74 3 (.s 67) (.s 73) },
    { op := .load 75 3 true (.s 74), blk := some 99999 },
    { op := .eqagg 76 true [0, 0, 2] (.s 63) (.s 75) }] (some [0, 0, 3, 7, 0, 16, 0, 112, 240, 496, 1023, 2047, 0, 0, 12288, 28672, 0, 65536, 0, 458752, 983040, 2031616, 4190208, 8384512, 16777215]) true [1, 2, 5, 7, 76] [2])
  (.cond (.s 76) (.seq (.region [{ op := .mov 4 (.c (.bool false)) false }] none false [4] [])
  .ret) (.skip [1, 2, 5, 7] [2]))))
  (.region [{ op := .mov 50 (.s 7) false },
    { op := .bin 51 .add (.s 50) (.c (.int .i64 1)) },
    { op := .mov 7 (.s 51) false }] none false [1, 2, 5, 7] [2])))
def a15_l2 : ACode := (.seq (.seq (.region [{ op := .mov 84 (.s 9) false },
    { op := .mov 85 (.s 5) false },
    { op := .bin 86 .lss (.s 84) (.s 85) }] none false [1, 2, 5, 8, 9, 86] [2])
  (.cond (.s 86) (.skip [1, 2, 5, 8, 9] [2]) (.exit 8 [1, 2, 5, 8] [2])))
  (.seq (.block 9 (.seq (.region [{ op := .mov 89 (.s 1) false },
    { op := .mov 90 (.s 5) false },
    { op := .iaddrS 91 1 (.s 89) (.s 90) },
    { op := .load 92 1 false (.s 91), blk := some 99999 },
    { op := .faddr 93 2 (.s 2) },
    { op := .load 94 1 false (.s 93), blk := some 2 },
    { op := .mov 95 (.s 8) false },
    { op := .iaddrS 96 1 (.s 94) (.s 95) },
    { op := .load 97 1 false (.s 96), blk := some 99999 },
    { op := .call (some 98) 47 [(.s 92), (.s 97)] },
    { op := .mov 99 (.s 1) false },
    { op := .mov 100 (.s 9) false },
    { op := .iaddrS 101 1 (.s 99) (.s 100) },
    { op := .load 102 1 false (.s 101), blk := some 99999 },
    { op := .faddr 103 2 (.s 2) },
    { op := .load 104 1 false (.s 103), blk := some 2 },
    { op := .mov 105 (.s 8) false },
    { op := .iaddrS 106 1 (.s 104) (.s 105) },
    { op := .load 107 1 false (.s 106), blk := some 99999 },
    { op := .call (some 108) 47 [(.s 102), (.s 107)] },
    { op := .call (some 109) 46 [(.s 98), (.s 108)] },
    { op := .bin 110 .eql (.s 109) (.c (.int .i64 0)) }] (some [0, 0, 3, 7, 0, 16, 0, 112, 240, 511, 0, 0, 3072, 7168, 0, 16384, 0, 114688, 245760, 524287, 1048575, 2097151]) true [1, 2, 5, 8, 9, 110] [2])
  (.cond (.s 110) (.seq (.region [{ op := .mov 4 (.c (.bool false)) false }] none false [4] [])
  .ret) (.skip [1, 2, 5, 8, 9] [2]))))
  (.region [{ op := .mov 87 (.s 9) false },
    { op := .bin 88 .add (.s 87) (.c (.int .i64 1)) },
    { op := .mov 9 (.s 88) false }] none false [1, 2, 5, 8, 9] [2])))
def a15_l3 : ACode := (.seq (.seq (.region [{ op := .mov 77 (.s 8) false },
    { op := .faddr 78 2 (.s 2) },
    { op := .load 79 1 false (.s 78) },
    { op := .len 80 false (.s 79) },
    { op := .bin 81 .lss (.s 77) (.s 80) }] none false [1, 2, 5, 8, 81] [2])
  (.cond (.s 81) (.skip [1, 2, 5, 8] [2]) (.exit 6 [1, 2, 5] [2])))
  (.seq (.block 7 (.seq (.region [{ op := .mov 9 (.c (.int .i64 0)) false }] none false [1, 2, 5, 8, 9] [2])
  (.block 8 (.loop a15_l2))))
  (.region [{ op := .mov 82 (.s 8) false },
    { op := .bin 83 .add (.s 82) (.c (.int .i64 1)) },
    { op := .mov 8 (.s 83) false }] none false [1, 2, 5, 8] [2])))
def a15_l4 : ACode := (.seq (.seq (.region [{ op := .mov 10 (.s 5) false },
    { op := .mov 11 (.s 1) false },
    { op := .len 12 false (.s 11) },
    { op := .bin 13 .lss (.s 10) (.s 12) }] none false [1, 2, 5, 13] [2])
  (.cond (.s 13) (.skip [1, 2, 5] [2]) (.exit 0 [] [])))
  (.seq (.block 1 (.seq (.seq (.region [{ op := .mov 6 (.c (.int .i64 0)) false }] none false [1, 2, 5, 6] [2])
  (.block 2 (.loop a15_l0)))
  (.seq (.seq (.region [{ op := .mov 7 (.c (.int .i64 0)) false }] none false [1, 2, 5, 7] [2])
  (.block 4 (.loop a15_l1)))
  (.seq (.region [{ op := .mov 8 (.c (.int .i64 0)) false }] none false [1, 2, 5, 8] [2])
  (.block 6 (.loop a15_l3))))))
  (.region [{ op := .mov 14 (.s 5) false },
    { op := .bin 15 .add (.s 14) (.c (.int .i64 1)) },
    { op := .mov 5 (.s 15) false }] none false [1, 2, 5] [2])))
def a15 : AFun := { n := 2, N := 111, res := [.tmp 4], body :=
  (.seq (.region [{ op := .box 2 false (.s 0) },
    { op := .mov 4 (.c (.bool false)) false }] none false [1, 2] [2])
  (.seq (.seq (.region [{ op := .mov 5 (.c (.int .i64 0)) false }] none false [1, 2, 5] [2])
  (.block 0 (.loop a15_l4)))
  (.seq (.region [{ op := .mov 4 (.c (.bool true)) false }] none false [4] [])
  .ret))) }

-- tactician/tacticianref18.Sorted
def a16_l0 : ACode := (.seq (.seq (.region [{ op := .mov 14 (.s 7) false },
    { op := .mov 15 (.s 0) false },
    { op := .len 16 false (.s 15) },
    { op := .bin 17 .lss (.s 14) (.s 16) },
    { op := .mov 18 (.s 17) false },
    { op := .mov 19 (.s 6) false, gd := some (18, true) },
    { op := .bin 20 .eql (.s 19) (.c (.int .i64 0)), gd := some (18, true) },
    { op := .pick 21 (.s 18) (.s 20) (.c (.bool false)) }] none false [0, 1, 5, 6, 7, 21] [])
  (.cond (.s 21) (.skip [0, 1, 5, 7] []) (.exit 2 [0, 1, 5, 6] [])))
  (.seq (.block 3 (.seq (.region [{ op := .mov 24 (.s 1) false },
    { op := .mov 25 (.s 5) false },
    { op := .bin 26 .sub (.s 25) (.c (.int .i64 1)) },
    { op := .iaddrS 27 1 (.s 24) (.s 26) },
    { op := .load 28 1 false (.s 27), blk := some 99999 },
    { op := .mov 29 (.s 0) false },
    { op := .mov 30 (.s 7) false },
    { op := .iaddrS 31 2 (.s 29) (.s 30) },
    { op := .faddr 32 0 (.s 31) },
    { op := .load 33 1 false (.s 32), blk := some 99999 },
    { op := .iaddrS 34 3 (.s 28) (.s 33) },
    { op := .load 35 3 true (.s 34), blk := some 99999 },
    { op := .mov 36 (.s 1) false },
    { op := .mov 37 (.s 5) false },
    { op := .iaddrS 38 1 (.s 36) (.s 37) },
    { op := .load 39 1 false (.s 38), blk := some 99999 },
    { op := .mov 40 (.s 0) false },
    { op := .mov 41 (.s 7) false },
    { op := .iaddrS 42 2 (.s 40) (.s 41) },
    { op := .faddr 43 0 (.s 42) },
    { op := .load 44 1 false (.s 43), blk := some 99999 },
    { op := .iaddrS 45 3 (.s 39) (.s 44) },
    { op := .load 46 3 true (.s 45), blk := some 99999 },
    { op := .call (some 47) 48 [(.s 35), (.s 46)] },
    { op := .mov 6 (.s 47) false }] (some [0, 0, 2, 7, 15, 0, 0, 96, 224, 480, 1023, 2047, 0, 0, 12288, 28672, 0, 0, 196608, 458752, 983040, 2093056, 4190208, 8388607, 16777215]) true [0, 1, 5, 6, 7] [])
  (.seq (.region [{ op := .mov 48 (.s 0) false },
    { op := .mov 49 (.s 7) false },
    { op := .iaddrS 50 2 (.s 48) (.s 49) },
    { op := .faddr 51 1 (.s 50) },
    { op := .load 52 1 false (.s 51) }] none false [0, 1, 5, 6, 7, 52] [])
  (.cond (.s 52) (.region [{ op := .mov 53 (.s 6) false },
    { op := .un 54 .neg (.s 53) },
    { op := .mov 6 (.s 54) false }] none false [0, 1, 5, 6, 7] []) (.skip [0, 1, 5, 6, 7] [])))))
  (.region [{ op := .mov 22 (.s 7) false },
    { op := .bin 23 .add (.s 22) (.c (.int .i64 1)) },
    { op := .mov 7 (.s 23) false }] none false [0, 1, 5, 6, 7] [])))
def a16_l1 : ACode := (.seq (.seq (.region [{ op := .mov 8 (.s 5) false },
    { op := .mov 9 (.s 1) false },
    { op := .len 10 false (.s 9) },
    { op := .bin 11 .lss (.s 8) (.s 10) }] none false [0, 1, 5, 11] [])
  (.cond (.s 11) (.skip [0, 1, 5] []) (.exit 0 [] [])))
  (.seq (.block 1 (.seq (.region [{ op := .mov 6 (.c (.int .i64 0)) false }] none false [0, 1, 5, 6] [])
  (.seq (.seq (.region [{ op := .mov 7 (.c (.int .i64 0)) false }] none false [0, 1, 5, 6, 7] [])
  (.block 2 (.loop a16_l0)))
  (.seq (.region [{ op := .mov 55 (.s 6) false },
    { op := .bin 56 .gtr (.s 55) (.c (.int .i64 0)) }] none false [0, 1, 5, 56] [])
  (.cond (.s 56) (.seq (.region [{ op := .mov 4 (.c (.bool false)) false }] none false [4] [])
  .ret) (.skip [0, 1, 5] []))))))
  (.region [{ op := .mov 12 (.s 5) false },
    { op := .bin 13 .add (.s 12) (.c (.int .i64 1)) },
    { op := .mov 5 (.s 13) false }] none false [0, 1, 5] [])))
def a16 : AFun := { n := 2, N := 57, res := [.tmp 4], body :=
  (.seq (.region [{ op := .mov 4 (.c (.bool false)) false }] none false [0, 1] [])
  (.seq (.seq (.region [{ op := .mov 5 (.c (.int .i64 1)) false }] none false [0, 1, 5] [])
  (.block 0 (.loop a16_l1)))
  (.seq (.region [{ op := .mov 4 (.c (.bool true)) false }] none false [4] [])
  .ret))) }

-- tactician/tacticianref18.Cut
def a17_l0 : ACode := (.seq (.seq (.region [{ op := .mov 24 (.s 4) false },
    { op := .faddr 25 2 (.s 1) },
    { op := .load 26 1 false (.s 25) },
    { op := .len 27 false (.s 26) },
    { op := .bin 28 .lss (.s 24) (.s 27) },
    { op := .mov 29 (.s 28) false },
    { op := .mov 30 (.s 4) false, gd := some (29, true) },
    { op := .bin 31 .lss (.s 30) (.c (.int .i64 18)), gd := some (29, true) },
    { op := .pick 32 (.s 29) (.s 31) (.c (.bool false)) }] none false [1, 2, 3, 4, 32] [1, 2, 3])
  (.cond (.s 32) (.skip [1, 2, 3, 4] [1, 2, 3]) (.exit 0 [2, 3] [2, 3])))
  (.seq (.block 1 (.region [{ op := .faddr 35 2 (.s 3) },
    { op := .take 36 (.s 35), blk := some 3 },
    { op := .bslice 37 1 3 [] },
    { op := .faddr 38 2 (.s 1) },
    { op := .load 39 1 false (.s 38), blk := some 1 },
    { op := .mov 40 (.s 4) false },
    { op := .iaddrS 41 1 (.s 39) (.s 40) },
    { op := .load 42 1 false (.s 41), blk := some 99999 },
    { op := .faddr 43 2 (.s 1) },
    { op := .load 44 1 false (.s 43), blk := some 1 },
    { op := .mov 45 (.s 4) false },
    { op := .iaddrS 46 1 (.s 44) (.s 45) },
    { op := .load 47 1 false (.s 46), blk := some 99999 },
    { op := .len 48 false (.s 47) },
    { op := .mm 49 false (.s 48) (.c (.int .i64 18)) },
    { op := .slice 50 1 (.s 42) none (some (.s 49)) },
    { op := .append 51 1 3 8 (.s 37) (.s 50) },
    { op := .bslice 52 1 22 [(.s 51)] },
    { op := .append 53 1 22 24 (.s 36) (.s 52) },
    { op := .faddr 54 2 (.s 3) },
    { op := .store (.s 54) (.s 53) 1 true, blk := some 3 }] (some [0, 1, 0, 0, 8, 0, 56, 120, 0, 256, 0, 1792, 3840, 7936, 16128, 32760, 65532, 131068, 262143, 524287, 1048575]) true [1, 2, 3, 4] [1, 2, 3]))
  (.region [{ op := .mov 33 (.s 4) false },
    { op := .bin 34 .add (.s 33) (.c (.int .i64 1)) },
    { op := .mov 4 (.s 34) false }] none false [1, 2, 3, 4] [1, 2, 3])))
def a17 : AFun := { n := 1, N := 56, res := [.cell 2 3 true], body :=
  (.seq (.region [{ op := .box 1 false (.s 0) },
    { op := .alloc 2 false [.slice 1 [], .slice 2 [], .slice 1 []] [(0, 3), (1, 63), (2, 22)] }] none false [1, 2] [1, 2])
  (.seq (.region [{ op := .bslice 5 1 3 [] },
    { op := .faddr 6 0 (.s 1) },
    { op := .load 7 1 false (.s 6), blk := some 1 },
    { op := .faddr 8 0 (.s 1) },
    { op := .load 9 1 false (.s 8), blk := some 1 },
    { op := .len 10 false (.s 9) },
    { op := .mm 11 false (.s 10) (.c (.int .i64 18)) },
    { op := .slice 12 1 (.s 7) none (some (.s 11)) },
    { op := .append 13 1 3 8 (.s 5) (.s 12) },
    { op := .bslice 14 2 63 [] },
    { op := .faddr 15 1 (.s 1) },
    { op := .load 16 1 false (.s 15), blk := some 1 },
    { op := .faddr 17 1 (.s 1) },
    { op := .load 18 1 false (.s 17), blk := some 1 },
    { op := .len 19 false (.s 18) },
    { op := .mm 20 false (.s 19) (.c (.int .i64 18)) },
    { op := .slice 21 2 (.s 16) none (some (.s 20)) },
    { op := .append 22 2 63 16 (.s 14) (.s 21) },
    { op := .build 23 [.slice 1 [], .slice 2 [], .slice 1 []] [(0, 1, (.s 13)), (1, 1, (.s 22))] },
    { op := .alloc 3 false [.slice 1 [], .slice 2 [], .slice 1 []] [(0, 3), (1, 63), (2, 22)] },
    { op := .store (.s 3) (.s 23) 3 false [(2, 22)], blk := some 3 }] (some [0, 0, 2, 0, 8, 24, 56, 126, 255, 0, 0, 1024, 0, 4096, 12288, 28672, 64512, 131071, 262143, 0, 1048575]) true [1, 2, 3] [1, 2, 3])
  (.seq (.seq (.region [{ op := .mov 4 (.c (.int .i64 0)) false }] none false [1, 2, 3, 4] [1, 2, 3])
  (.block 0 (.loop a17_l0)))
  (.seq (.region [{ op := .load 55 3 true (.s 3) },
    { op := .store (.s 2) (.s 55) 3 false }] none false [2] [2])
  .ret)))) }

-- tactician/tacticianref18.CutKeys
def a18 : AFun := { n := 1, N := 10, res := [.tmp 2], body :=
  (.seq (.region [{ op := .nils 2 2 52 }] none false [0] [])
  (.seq (.region [{ op := .bslice 3 2 52 [] },
    { op := .mov 4 (.s 0) false },
    { op := .mov 5 (.s 0) true },
    { op := .len 6 false (.s 5) },
    { op := .mm 7 false (.s 6) (.c (.int .i64 34)) },
    { op := .slice 8 2 (.s 4) none (some (.s 7)) },
    { op := .append 9 2 52 16 (.s 3) (.s 8) },
    { op := .mov 2 (.s 9) true }] none false [2] [])
  .ret)) }

-- tactician/tacticianref18.Asked
def a19_l0 : ACode := (.seq (.seq (.region [{ op := .mov 18 (.s 7) false },
    { op := .mov 19 (.s 2) false },
    { op := .len 20 false (.s 19) },
    { op := .bin 21 .lss (.s 18) (.s 20) }] none false [0, 2, 7, 21] [])
  (.cond (.s 21) (.skip [0, 2, 7] []) (.exit 0 [] [])))
  (.seq (.block 1 (.seq (.region [{ op := .mov 24 (.s 0) false },
    { op := .mov 25 (.s 2) false },
    { op := .mov 26 (.s 7) false },
    { op := .iaddrS 27 1 (.s 25) (.s 26) },
    { op := .load 28 1 false (.s 27) },
    { op := .call (some 29) 50 [(.s 24), (.s 28)] },
    { op := .un 30 .not (.s 29) }] none false [0, 2, 7, 30] [])
  (.cond (.s 30) (.seq (.region [{ op := .mov 6 (.c (.int .i64 180)) false }] none false [6] [])
  .ret) (.skip [0, 2, 7] []))))
  (.region [{ op := .mov 22 (.s 7) false },
    { op := .bin 23 .add (.s 22) (.c (.int .i64 1)) },
    { op := .mov 7 (.s 23) false }] none false [0, 2, 7] [])))
def a19 : AFun := { n := 3, N := 31, res := [.tmp 6], body :=
  (.seq (.region [{ op := .box 4 false (.s 1) },
    { op := .mov 6 (.c (.int .i64 0)) false }] none false [0, 2, 4] [4])
  (.seq (.seq (.region [{ op := .mov 8 (.s 0) false },
    { op := .bin 9 .lss (.s 8) (.c (.int .i64 1)) },
    { op := .mov 10 (.s 9) false },
    { op := .mov 11 (.s 0) false, gd := some (10, false) },
    { op := .bin 12 .gtr (.s 11) (.c (.int .i64 16)), gd := some (10, false) },
    { op := .pick 13 (.s 10) (.c (.bool true)) (.s 12) }] none false [0, 2, 4, 13] [4])
  (.cond (.s 13) (.seq (.region [{ op := .mov 6 (.c (.int .i64 1)) false }] none false [6] [])
  .ret) (.skip [0, 2, 4] [4])))
  (.seq (.seq (.region [{ op := .mov 14 (.s 0) false },
    { op := .load 15 3 true (.s 4) },
    { op := .call (some 16) 49 [(.s 14), (.s 15)] },
    { op := .un 17 .not (.s 16) }] none false [0, 2, 17] [])
  (.cond (.s 17) (.seq (.region [{ op := .mov 6 (.c (.int .i64 180)) false }] none false [6] [])
  .ret) (.skip [0, 2] [])))
  (.seq (.seq (.region [{ op := .mov 7 (.c (.int .i64 0)) false }] none false [0, 2, 7] [])
  (.block 0 (.loop a19_l0)))
  (.seq (.region [{ op := .mov 6 (.c (.int .i64 0)) false }] none false [6] [])
  .ret))))) }

-- tactician/tacticianlaw18.awake
def a20 : AFun := { n := 0, N := 71, res := [.tmp 0], body :=
  (.seq (.region [{ op := .mov 0 (.c (.bool false)) false }] none false [] [])
  (.seq (.region [{ op := .bslice 10 1 3 [(.c (.int .i64 0))] },
    { op := .build 11 [.int .i64 0, .int .i64 0] [(0, 1, (.c (.int .i64 1))), (1, 1, (.c (.int .i64 2)))] },
    { op := .bslice 12 2 63 [(.s 11)] },
    { op := .build 13 [.slice 1 [], .slice 2 [], .slice 1 []] [(0, 1, (.s 10)), (1, 1, (.s 12))] },
    { op := .alloc 1 false [.slice 1 [], .slice 2 [], .slice 1 []] [(0, 3), (1, 63), (2, 22)] },
    { op := .store (.s 1) (.s 13) 3 false [(2, 22)] }] none false [1] [1])
  (.seq (.region [{ op := .load 15 3 true (.s 1) },
    { op := .build 16 [.int .i64 0, .bool false] [(0, 1, (.c (.int .i64 0)))] },
    { op := .build 17 [.int .i64 0, .bool false] [(0, 1, (.c (.int .i64 2))), (1, 1, (.c (.bool true)))] },
    { op := .build 18 [.int .i64 0, .bool false] [(0, 1, (.c (.int .i64 1)))] },
    { op := .bslice 19 2 52 [(.s 16), (.s 17), (.s 18)] },
    { op := .call (some 20) 51 [(.c (.int .i64 3)), (.s 15), (.s 19)] },
    { op := .mov 14 (.s 20) false },
    { op := .extract 21 (.s 14) 0 },
    { op := .extract 22 (.s 14) 1 },
    { op := .mov 2 (.s 21) true },
    { op := .mov 3 (.s 22) false }] none false [1, 2, 3] [1])
  (.seq (.region [{ op := .load 24 3 true (.s 1) },
    { op := .build 25 [.int .i64 0, .bool false] [(0, 1, (.c (.int .i64 1)))] },
    { op := .build 26 [.int .i64 0, .bool false] [(0, 1, (.c (.int .i64 2))), (1, 1, (.c (.bool true)))] },
    { op := .bslice 27 2 52 [(.s 25), (.s 26)] },
    { op := .build 28 [.int .i64 0, .bool false] [(0, 1, (.c (.int .i64 2)))] },
    { op := .bslice 29 2 52 [(.s 28)] },
    { op := .call (some 30) 52 [(.c (.int .i64 3)), (.s 24), (.s 27), (.s 29)] },
    { op := .mov 23 (.s 30) false },
    { op := .extract 31 (.s 23) 0 },
    { op := .extract 32 (.s 23) 1 },
    { op := .mov 4 (.s 31) false },
    { op := .mov 5 (.s 32) false }] none false [2, 3, 4, 5] [])
  (.seq (.region [{ op := .build 34 [.int .i64 0, .bool false] [(0, 1, (.c (.int .i64 2))), (1, 1, (.c (.bool true)))] },
    { op := .bslice 35 2 52 [(.s 34)] },
    { op := .call (some 36) 53 [(.c (.int .i64 3)), (.s 35)] },
    { op := .mov 33 (.s 36) false },
    { op := .extract 37 (.s 33) 0 },
    { op := .extract 38 (.s 33) 1 },
    { op := .mov 6 (.s 37) true },
    { op := .mov 7 (.s 38) false }] none false [2, 3, 4, 5, 6, 7] [])
  (.seq (.region [{ op := .mov 40 (.s 6) true },
    { op := .call (some 41) 21 [(.s 40)] },
    { op := .mov 39 (.s 41) false },
    { op := .extract 42 (.s 39) 0 },
    { op := .extract 43 (.s 39) 1 },
    { op := .mov 8 (.s 42) false },
    { op := .mov 9 (.s 43) false }] none false [2, 3, 4, 5, 7, 8, 9] [])
  (.seq (.region [{ op := .mov 44 (.s 3) false },
    { op := .bin 45 .eql (.s 44) (.c (.int .i64 0)) },
    { op := .mov 46 (.s 45) false },
    { op := .mov 47 (.s 2) true, gd := some (46, true) },
    { op := .build 48 [.int .i64 0, .bool false] [(0, 1, (.c (.int .i64 1))), (1, 1, (.c (.bool true)))], gd := some (46, true) },
    { op := .bslice 49 2 52 [(.s 48)], gd := some (46, true) },
    { op := .call (some 50) 25 [(.s 47), (.s 49)], gd := some (46, true) },
    { op := .pick 51 (.s 46) (.s 50) (.c (.bool false)) },
    { op := .mov 52 (.s 51) false },
    { op := .mov 53 (.s 4) false, gd := some (52, true) },
    { op := .pick 54 (.s 52) (.s 53) (.c (.bool false)) },
    { op := .mov 55 (.s 54) false },
    { op := .mov 56 (.s 5) false, gd := some (55, true) },
    { op := .bin 57 .eql (.s 56) (.c (.int .i64 0)), gd := some (55, true) },
    { op := .pick 58 (.s 55) (.s 57) (.c (.bool false)) },
    { op := .mov 59 (.s 58) false },
    { op := .mov 60 (.s 7) false, gd := some (59, true) },
    { op := .bin 61 .eql (.s 60) (.c (.int .i64 0)), gd := some (59, true) },
    { op := .pick 62 (.s 59) (.s 61) (.c (.bool false)) },
    { op := .mov 63 (.s 62) false },
    { op := .mov 64 (.s 9) false, gd := some (63, true) },
    { op := .bin 65 .eql (.s 64) (.c (.int .i64 0)), gd := some (63, true) },
    { op := .pick 66 (.s 63) (.s 65) (.c (.bool false)) },
    { op := .mov 67 (.s 66) false },
    { op := .mov 68 (.s 8) false, gd := some (67, true) },
    { op := .bin 69 .eql (.s 68) (.c (.str ⟨#[91, 50, 45, 32, 48, 32, 49, 93]⟩)), gd := some (67, true) },
    { op := .pick 70 (.s 67) (.s 69) (.c (.bool false)) },
    { op := .mov 0 (.s 70) false }] none false [0] [])
  .ret))))))) }

-- tactician/traits.String
def a21 : AFun := { n := 1, N := 9, res := [.tmp 2, .tmp 3], body :=
  (.seq (.region [{ op := .mov 2 (.c (.str ⟨#[]⟩)) false },
    { op := .mov 3 (.c (.int .i64 0)) false }] none false [0] [])
  (.seq (.seq (.region [{ op := .mov 4 (.s 0) false },
    { op := .call (some 5) 54 [(.s 4)] },
    { op := .un 6 .not (.s 5) }] none false [0, 6] [])
  (.cond (.s 6) (.seq (.region [{ op := .mov 2 (.c (.str ⟨#[]⟩)) false },
    { op := .mov 3 (.c (.int .i64 180)) false }] none false [2, 3] [])
  .ret) (.skip [0] [])))
  (.seq (.region [{ op := .mov 7 (.s 0) true },
    { op := .call (some 8) 55 [(.s 7)] },
    { op := .mov 2 (.s 8) false },
    { op := .mov 3 (.c (.int .i64 0)) false }] none false [2, 3] [])
  .ret))) }

-- tactician/tacticianref18.String
def a22_l0 : ACode := (.seq (.seq (.region [{ op := .mov 5 (.s 4) false },
    { op := .mov 6 (.s 0) false },
    { op := .len 7 false (.s 6) },
    { op := .bin 8 .lss (.s 5) (.s 7) }] none false [0, 3, 4, 8] [])
  (.cond (.s 8) (.skip [0, 3, 4] []) (.exit 0 [3] [])))
  (.seq (.block 1 (.seq (.seq (.region [{ op := .mov 11 (.s 4) false },
    { op := .bin 12 .gtr (.s 11) (.c (.int .i64 0)) }] none false [0, 3, 4, 12] [])
  (.cond (.s 12) (.region [{ op := .mov 13 (.s 3) false },
    { op := .bin 14 .add (.s 13) (.c (.str ⟨#[32]⟩)) },
    { op := .mov 3 (.s 14) false }] none false [0, 3, 4] []) (.skip [0, 3, 4] [])))
  (.seq (.region [{ op := .mov 15 (.s 3) false },
    { op := .mov 16 (.s 0) false },
    { op := .mov 17 (.s 4) false },
    { op := .iaddrS 18 2 (.s 16) (.s 17) },
    { op := .faddr 19 0 (.s 18) },
    { op := .load 20 1 false (.s 19) },
    { op := .call (some 21) 56 [(.s 20)] },
    { op := .bin 22 .add (.s 15) (.s 21) },
    { op := .mov 3 (.s 22) false }] none false [0, 3, 4] [])
  (.seq (.region [{ op := .mov 23 (.s 0) false },
    { op := .mov 24 (.s 4) false },
    { op := .iaddrS 25 2 (.s 23) (.s 24) },
    { op := .faddr 26 1 (.s 25) },
    { op := .load 27 1 false (.s 26) }] none false [0, 3, 4, 27] [])
  (.cond (.s 27) (.region [{ op := .mov 28 (.s 3) false },
    { op := .bin 29 .add (.s 28) (.c (.str ⟨#[45]⟩)) },
    { op := .mov 3 (.s 29) false }] none false [0, 3, 4] []) (.skip [0, 3, 4] []))))))
  (.region [{ op := .mov 9 (.s 4) false },
    { op := .bin 10 .add (.s 9) (.c (.int .i64 1)) },
    { op := .mov 4 (.s 10) false }] none false [0, 3, 4] [])))
def a22 : AFun := { n := 1, N := 32, res := [.tmp 2], body :=
  (.seq (.region [{ op := .mov 2 (.c (.str ⟨#[]⟩)) false }] none false [0] [])
  (.seq (.region [{ op := .mov 3 (.c (.str ⟨#[91]⟩)) false }] none false [0, 3] [])
  (.seq (.seq (.region [{ op := .mov 4 (.c (.int .i64 0)) false }] none false [0, 3, 4] [])
  (.block 0 (.loop a22_l0)))
  (.seq (.region [{ op := .mov 30 (.s 3) false },
    { op := .bin 31 .add (.s 30) (.c (.str ⟨#[93]⟩)) },
    { op := .mov 2 (.s 31) false }] none false [2] [])
  .ret)))) }

-- tactician/traits.Parse
def a23 : AFun := { n := 1, N := 14, res := [.tmp 2, .tmp 3], body :=
  (.seq (.region [{ op := .nils 2 2 52 },
    { op := .mov 3 (.c (.int .i64 0)) false }] none false [0] [])
  (.seq (.region [{ op := .mov 7 (.s 0) false },
    { op := .call (some 8) 57 [(.s 7)] },
    { op := .mov 6 (.s 8) false },
    { op := .extract 9 (.s 6) 0 },
    { op := .extract 10 (.s 6) 1 },
    { op := .mov 4 (.s 9) true },
    { op := .mov 5 (.s 10) false }] none false [4, 5] [])
  (.seq (.seq (.region [{ op := .mov 11 (.s 5) false },
    { op := .un 12 .not (.s 11) }] none false [4, 12] [])
  (.cond (.s 12) (.seq (.region [{ op := .nils 2 2 52 },
    { op := .mov 3 (.c (.int .i64 180)) false }] none false [2, 3] [])
  .ret) (.skip [4] [])))
  (.seq (.region [{ op := .mov 13 (.s 4) true },
    { op := .mov 2 (.s 13) true },
    { op := .mov 3 (.c (.int .i64 0)) false }] none false [2, 3] [])
  .ret)))) }

-- tactician/tacticianref18.Parse
def a24_l0 : ACode := (.seq (.seq (.region [{ op := .mov 22 (.s 6) false },
    { op := .mov 23 (.s 0) false },
    { op := .len 24 true (.s 23) },
    { op := .bin 25 .sub (.s 24) (.c (.int .i64 1)) },
    { op := .bin 26 .lss (.s 22) (.s 25) },
    { op := .mov 27 (.s 26) false },
    { op := .mov 28 (.s 0) false, gd := some (27, true) },
    { op := .mov 29 (.s 6) false, gd := some (27, true) },
    { op := .idxS 30 (.s 28) (.s 29), gd := some (27, true) },
    { op := .bin 31 .neq (.s 30) (.c (.int .u8 32)), gd := some (27, true) },
    { op := .pick 32 (.s 27) (.s 31) (.c (.bool false)) }] none false [0, 4, 5, 6, 32] [])
  (.cond (.s 32) (.skip [0, 4, 5, 6] []) (.exit 2 [0, 4, 5, 6] [])))
  (.block 3 (.region [{ op := .mov 33 (.s 6) false },
    { op := .bin 34 .add (.s 33) (.c (.int .i64 1)) },
    { op := .mov 6 (.s 34) false }] none false [0, 4, 5, 6] [])))
def a24_l1 : ACode := (.seq (.seq (.region [{ op := .mov 11 (.s 5) false },
    { op := .mov 12 (.s 0) false },
    { op := .len 13 true (.s 12) },
    { op := .bin 14 .sub (.s 13) (.c (.int .i64 1)) },
    { op := .bin 15 .lss (.s 11) (.s 14) },
    { op := .mov 16 (.s 15) false },
    { op := .mov 17 (.s 4) false, gd := some (16, true) },
    { op := .len 18 false (.s 17), gd := some (16, true) },
    { op := .bin 19 .leq (.s 18) (.c (.int .i64 32)), gd := some (16, true) },
    { op := .pick 20 (.s 16) (.s 19) (.c (.bool false)) }] none false [0, 4, 5, 20] [])
  (.cond (.s 20) (.skip [0, 4, 5] []) (.exit 0 [0, 4] [])))
  (.block 1 (.seq (.region [{ op := .mov 21 (.s 5) false },
    { op := .mov 6 (.s 21) false }] none false [0, 4, 5, 6] [])
  (.seq (.block 2 (.loop a24_l0))
  (.seq (.region [{ op := .mov 35 (.s 0) false },
    { op := .mov 36 (.s 5) false },
    { op := .mov 37 (.s 6) false },
    { op := .sliceS 38 (.s 35) (some (.s 36)) (some (.s 37)) },
    { op := .mov 7 (.s 38) false }] none false [0, 4, 6, 7] [])
  (.seq (.region [{ op := .build 39 [.int .i64 0, .bool false] [] },
    { op := .alloc 8 false [.int .i64 0, .bool false] [] },
    { op := .store (.s 8) (.s 39) 2 false }] none false [0, 4, 6, 7, 8] [8])
  (.seq (.seq (.region [{ op := .mov 40 (.s 7) false },
    { op := .len 41 true (.s 40) },
    { op := .bin 42 .gtr (.s 41) (.c (.int .i64 0)) },
    { op := .mov 43 (.s 42) false },
    { op := .mov 44 (.s 7) false, gd := some (43, true) },
    { op := .mov 45 (.s 7) false, gd := some (43, true) },
    { op := .len 46 true (.s 45), gd := some (43, true) },
    { op := .bin 47 .sub (.s 46) (.c (.int .i64 1)), gd := some (43, true) },
    { op := .idxS 48 (.s 44) (.s 47), gd := some (43, true) },
    { op := .bin 49 .eql (.s 48) (.c (.int .u8 45)), gd := some (43, true) },
    { op := .pick 50 (.s 43) (.s 49) (.c (.bool false)) }] none false [0, 4, 6, 7, 8, 50] [8])
  (.cond (.s 50) (.seq (.region [{ op := .faddr 51 1 (.s 8) },
    { op := .store (.s 51) (.c (.bool true)) 1 false }] none false [0, 4, 6, 7, 8] [8])
  (.region [{ op := .mov 52 (.s 7) false },
    { op := .mov 53 (.s 7) false },
    { op := .len 54 true (.s 53) },
    { op := .bin 55 .sub (.s 54) (.c (.int .i64 1)) },
    { op := .sliceS 56 (.s 52) none (some (.s 55)) },
    { op := .mov 7 (.s 56) false }] none false [0, 4, 6, 7, 8] [8])) (.skip [0, 4, 6, 7, 8] [8])))
  (.seq (.region [{ op := .mov 58 (.s 7) false },
    { op := .call (some 59) 58 [(.s 58)] },
    { op := .mov 57 (.s 59) false },
    { op := .extract 60 (.s 57) 0 },
    { op := .extract 61 (.s 57) 1 },
    { op := .mov 9 (.s 60) false },
    { op := .mov 10 (.s 61) false }] none false [0, 4, 6, 8, 9, 10] [8])
  (.seq (.seq (.region [{ op := .mov 62 (.s 10) false },
    { op := .un 63 .not (.s 62) },
    { op := .mov 64 (.s 63) false },
    { op := .mov 65 (.s 9) false, gd := some (64, false) },
    { op := .bin 66 .lss (.s 65) (.c (.int .i64 0)), gd := some (64, false) },
    { op := .pick 67 (.s 64) (.c (.bool true)) (.s 66) },
    { op := .mov 68 (.s 67) false },
    { op := .mov 69 (.s 9) false, gd := some (68, false) },
    { op := .bin 70 .gtr (.s 69) (.c (.int .i64 2147483647)), gd := some (68, false) },
    { op := .pick 71 (.s 68) (.c (.bool true)) (.s 70) }] none false [0, 4, 6, 8, 9, 71] [8])
  (.cond (.s 71) (.seq (.region [{ op := .nils 2 2 52 },
    { op := .mov 3 (.c (.bool false)) false }] none false [2, 3] [])
  .ret) (.skip [0, 4, 6, 8, 9] [8])))
  (.seq (.region [{ op := .mov 72 (.s 9) false },
    { op := .faddr 73 0 (.s 8) },
    { op := .store (.s 73) (.s 72) 1 false }] none false [0, 4, 6, 8] [8])
  (.seq (.region [{ op := .mov 74 (.s 4) true },
    { op := .load 75 2 true (.s 8) },
    { op := .bslice 76 2 52 [(.s 75)] },
    { op := .append 77 2 52 16 (.s 74) (.s 76) },
    { op := .mov 4 (.s 77) true }] none false [0, 4, 6] [])
  (.region [{ op := .mov 78 (.s 6) false },
    { op := .bin 79 .add (.s 78) (.c (.int .i64 1)) },
    { op := .mov 5 (.s 79) false }] none false [0, 4, 5] []))))))))))))
def a24 : AFun := { n := 1, N := 90, res := [.tmp 2, .tmp 3], body :=
  (.seq (.region [{ op := .nils 2 2 52 },
    { op := .mov 3 (.c (.bool false)) false }] none false [0] [])
  (.seq (.region [{ op := .nils 4 2 52 }] none false [0, 4] [])
  (.seq (.region [{ op := .mov 5 (.c (.int .i64 1)) false }] none false [0, 4, 5] [])
  (.seq (.block 0 (.loop a24_l1))
  (.seq (.region [{ op := .mov 80 (.s 4) false },
    { op := .mov 81 (.s 4) false },
    { op := .len 82 false (.s 81) },
    { op := .bin 83 .leq (.s 82) (.c (.int .i64 32)) },
    { op := .mov 84 (.s 83) false },
    { op := .mov 85 (.s 4) true, gd := some (84, true) },
    { op := .call (some 86) 22 [(.s 85)], gd := some (84, true) },
    { op := .mov 87 (.s 0) false, gd := some (84, true) },
    { op := .bin 88 .eql (.s 86) (.s 87), gd := some (84, true) },
    { op := .pick 89 (.s 84) (.s 88) (.c (.bool false)) },
    { op := .mov 2 (.s 80) true },
    { op := .mov 3 (.s 89) false }] none false [2, 3] [])
  .ret))))) }

-- tactician/tacticianref18.Same
def a25 : AFun := { n := 2, N := 15, res := [.tmp 4], body :=
  (.seq (.region [{ op := .mov 4 (.c (.bool false)) false }] none false [0, 1] [])
  (.seq (.region [{ op := .mov 5 (.s 0) false },
    { op := .len 6 false (.s 5) },
    { op := .mov 7 (.s 1) false },
    { op := .len 8 false (.s 7) },
    { op := .bin 9 .eql (.s 6) (.s 8) },
    { op := .mov 10 (.s 9) false },
    { op := .mov 11 (.s 0) true, gd := some (10, true) },
    { op := .mov 12 (.s 1) true, gd := some (10, true) },
    { op := .call (some 13) 59 [(.s 11), (.s 12)], gd := some (10, true) },
    { op := .pick 14 (.s 10) (.s 13) (.c (.bool false)) },
    { op := .mov 4 (.s 14) false }] none false [4] [])
  .ret)) }

-- tactician/tacticianref18.mod
def a26 : AFun := { n := 2, N := 11, res := [.tmp 4], body :=
  (.seq (.region [{ op := .mov 4 (.c (.int .i64 0)) false }] none false [0, 1] [])
  (.seq (.region [{ op := .mov 5 (.s 0) false },
    { op := .convI 6 .u64 (.s 5) },
    { op := .mov 7 (.s 1) false },
    { op := .convI 8 .u64 (.s 7) },
    { op := .bin 9 .rem (.s 6) (.s 8) },
    { op := .convI 10 .i64 (.s 9) },
    { op := .mov 4 (.s 10) false }] none false [4] [])
  .ret)) }

-- tactician/tacticianref02.TameRows
def a27_l0 : ACode := (.seq (.seq (.region [{ op := .mov 23 (.s 10) false },
    { op := .mov 24 (.s 0) false },
    { op := .len 25 false (.s 24) },
    { op := .bin 26 .lss (.s 23) (.s 25) }] none false [0, 1, 2, 7, 8, 9, 10, 26] [])
  (.cond (.s 26) (.skip [0, 1, 2, 7, 8, 9, 10] []) (.exit 2 [0, 1, 2, 7, 8, 9] [])))
  (.seq (.block 3 (.seq (.region [{ op := .build 29 [.int .i64 0, .int .i64 0, .str ⟨#[]⟩] [] },
    { op := .alloc 11 false [.int .i64 0, .int .i64 0, .str ⟨#[]⟩] [] },
    { op := .store (.s 11) (.s 29) 3 false }] none false [0, 1, 2, 7, 8, 9, 10, 11] [11])
  (.seq (.seq (.region [{ op := .mov 30 (.s 1) false },
    { op := .mov 31 (.s 8) false },
    { op := .iaddrS 32 1 (.s 30) (.s 31) },
    { op := .load 33 1 false (.s 32) },
    { op := .len 34 false (.s 33) },
    { op := .bin 35 .gtr (.s 34) (.c (.int .i64 0)) }] none false [0, 1, 2, 7, 8, 9, 10, 11, 35] [11])
  (.cond (.s 35) (.seq (.region [{ op := .mov 36 (.s 1) false },
    { op := .mov 37 (.s 8) false },
    { op := .iaddrS 38 1 (.s 36) (.s 37) },
    { op := .load 39 1 false (.s 38), blk := some 99999 },
    { op := .mov 40 (.s 10) false },
    { op := .mov 41 (.s 1) false },
    { op := .mov 42 (.s 8) false },
    { op := .iaddrS 43 1 (.s 41) (.s 42) },
    { op := .load 44 1 false (.s 43), blk := some 99999 },
    { op := .len 45 false (.s 44) },
    { op := .bin 46 .rem (.s 40) (.s 45) },
    { op := .iaddrS 47 3 (.s 39) (.s 46) },
    { op := .load 48 3 true (.s 47), blk := some 99999 },
    { op := .store (.s 11) (.s 48) 3 false, blk := some 11 }] (some [0, 0, 3, 7, 0, 0, 0, 96, 224, 480, 1008, 2047, 4095, 8191]) true [0, 1, 2, 7, 8, 9, 10, 11] [11])
  (.region [{ op := .faddr 49 1 (.s 11) },
    { op := .load 50 1 false (.s 49), blk := some 11 },
    { op := .mov 51 (.s 10) false },
    { op := .mov 52 (.s 1) false },
    { op := .mov 53 (.s 8) false },
    { op := .iaddrS 54 1 (.s 52) (.s 53) },
    { op := .load 55 1 false (.s 54), blk := some 99999 },
    { op := .len 56 false (.s 55) },
    { op := .bin 57 .quo (.s 51) (.s 56) },
    { op := .bin 58 .add (.s 50) (.s 57) },
    { op := .faddr 59 1 (.s 11) },
    { op := .store (.s 59) (.s 58) 1 false, blk := some 11 }] (some [0, 1, 0, 0, 0, 24, 56, 120, 252, 511, 1023, 2047]) true [0, 1, 2, 7, 8, 9, 10, 11] [11])) (.skip [0, 1, 2, 7, 8, 9, 10, 11] [11])))
  (.region [{ op := .mov 60 (.s 9) true },
    { op := .load 61 3 true (.s 11), blk := some 11 },
    { op := .mov 62 (.s 0) false },
    { op := .mov 63 (.s 10) false },
    { op := .iaddrS 64 2 (.s 62) (.s 63) },
    { op := .load 65 2 true (.s 64), blk := some 99999 },
    { op := .call (some 66) 60 [(.s 61), (.s 65)] },
    { op := .bslice 67 3 71 [(.s 66)] },
    { op := .append 68 3 71 32 (.s 60) (.s 67) },
    { op := .mov 9 (.s 68) true }] (some [0, 0, 0, 0, 12, 28, 62, 126, 255, 511]) true [0, 1, 2, 7, 8, 9, 10] []))))
  (.region [{ op := .mov 27 (.s 10) false },
    { op := .bin 28 .add (.s 27) (.c (.int .i64 1)) },
    { op := .mov 10 (.s 28) false }] none false [0, 1, 2, 7, 8, 9, 10] [])))
def a27_l1 : ACode := (.seq (.seq (.region [{ op := .mov 12 (.s 8) false },
    { op := .mov 13 (.s 1) false },
    { op := .len 14 false (.s 13) },
    { op := .bin 15 .lss (.s 12) (.s 14) },
    { op := .mov 16 (.s 15) false },
    { op := .mov 17 (.s 8) false, gd := some (16, true) },
    { op := .mov 18 (.s 2) false, gd := some (16, true) },
    { op := .bin 19 .lss (.s 17) (.s 18), gd := some (16, true) },
    { op := .pick 20 (.s 16) (.s 19) (.c (.bool false)) }] none false [0, 1, 2, 7, 8, 20] [])
  (.cond (.s 20) (.skip [0, 1, 2, 7, 8] []) (.exit 0 [7] [])))
  (.seq (.block 1 (.seq (.region [{ op := .nils 9 3 71 }] none false [0, 1, 2, 7, 8, 9] [])
  (.seq (.seq (.region [{ op := .mov 10 (.c (.int .i64 0)) false }] none false [0, 1, 2, 7, 8, 9, 10] [])
  (.block 2 (.loop a27_l0)))
  (.region [{ op := .mov 69 (.s 7) true },
    { op := .mov 70 (.s 9) true },
    { op := .bslice 71 1 69 [(.s 70)] },
    { op := .append 72 1 69 24 (.s 69) (.s 71) },
    { op := .mov 7 (.s 72) true }] none false [0, 1, 2, 7, 8] []))))
  (.region [{ op := .mov 21 (.s 8) false },
    { op := .bin 22 .add (.s 21) (.c (.int .i64 1)) },
    { op := .mov 8 (.s 22) false }] none false [0, 1, 2, 7, 8] [])))
def a27 : AFun := { n := 3, N := 74, res := [.tmp 6], body :=
  (.seq (.region [{ op := .nils 6 1 69 }] none false [0, 1, 2] [])
  (.seq (.region [{ op := .nils 7 1 69 }] none false [0, 1, 2, 7] [])
  (.seq (.seq (.region [{ op := .mov 8 (.c (.int .i64 0)) false }] none false [0, 1, 2, 7, 8] [])
  (.block 0 (.loop a27_l1)))
  (.seq (.region [{ op := .mov 73 (.s 7) true },
    { op := .mov 6 (.s 73) true }] none false [6] [])
  .ret)))) }

-- tactician/tacticianref02.Copy
def a28_l0 : ACode := (.seq (.seq (.region [{ op := .mov 5 (.s 4) false },
    { op := .mov 6 (.s 0) false },
    { op := .len 7 false (.s 6) },
    { op := .bin 8 .lss (.s 5) (.s 7) }] none false [0, 3, 4, 8] [])
  (.cond (.s 8) (.skip [0, 3, 4] []) (.exit 0 [3] [])))
  (.seq (.block 1 (.region [{ op := .mov 11 (.s 3) true },
    { op := .bslice 12 3 71 [] },
    { op := .mov 13 (.s 0) false },
    { op := .mov 14 (.s 4) false },
    { op := .iaddrS 15 1 (.s 13) (.s 14) },
    { op := .load 16 1 false (.s 15) },
    { op := .append 17 3 71 32 (.s 12) (.s 16) },
    { op := .bslice 18 1 69 [(.s 17)] },
    { op := .append 19 1 69 24 (.s 11) (.s 18) },
    { op := .mov 3 (.s 19) true }] none false [0, 3, 4] []))
  (.region [{ op := .mov 9 (.s 4) false },
    { op := .bin 10 .add (.s 9) (.c (.int .i64 1)) },
    { op := .mov 4 (.s 10) false }] none false [0, 3, 4] [])))
def a28 : AFun := { n := 1, N := 21, res := [.tmp 2], body :=
  (.seq (.region [{ op := .nils 2 1 69 }] none false [0] [])
  (.seq (.region [{ op := .nils 3 1 69 }] none false [0, 3] [])
  (.seq (.seq (.region [{ op := .mov 4 (.c (.int .i64 0)) false }] none false [0, 3, 4] [])
  (.block 0 (.loop a28_l0)))
  (.seq (.region [{ op := .mov 20 (.s 3) true },
    { op := .mov 2 (.s 20) true }] none false [2] [])
  .ret)))) }

-- tactician/tacticianref02.by
def a29_l0 : ACode := (.seq (.seq (.region [{ op := .mov 9 (.s 7) false },
    { op := .mov 10 (.s 0) false },
    { op := .len 11 false (.s 10) },
    { op := .bin 12 .lss (.s 9) (.s 11) }] none false [0, 1, 2, 7, 12] [])
  (.cond (.s 12) (.skip [0, 1, 2, 7] []) (.exit 0 [1, 2] [])))
  (.seq (.block 1 (.seq (.region [{ op := .mov 15 (.s 1) false },
    { op := .mov 16 (.s 0) false },
    { op := .mov 17 (.s 7) false },
    { op := .iaddrS 18 2 (.s 16) (.s 17) },
    { op := .faddr 19 0 (.s 18) },
    { op := .load 20 1 false (.s 19), blk := some 99999 },
    { op := .iaddrS 21 3 (.s 15) (.s 20) },
    { op := .load 22 3 true (.s 21), blk := some 99999 },
    { op := .mov 23 (.s 2) false },
    { op := .mov 24 (.s 0) false },
    { op := .mov 25 (.s 7) false },
    { op := .iaddrS 26 2 (.s 24) (.s 25) },
    { op := .faddr 27 0 (.s 26) },
    { op := .load 28 1 false (.s 27), blk := some 99999 },
    { op := .iaddrS 29 3 (.s 23) (.s 28) },
    { op := .load 30 3 true (.s 29), blk := some 99999 },
    { op := .call (some 31) 48 [(.s 22), (.s 30)] },
    { op := .mov 8 (.s 31) false }] (some [0, 0, 0, 6, 14, 30, 63, 127, 0, 0, 0, 1536, 3584, 7680, 16128, 32512, 65535, 131071]) true [0, 1, 2, 7, 8] [])
  (.seq (.seq (.region [{ op := .mov 32 (.s 8) false },
    { op := .bin 33 .neq (.s 32) (.c (.int .i64 0)) },
    { op := .mov 34 (.s 33) false },
    { op := .mov 35 (.s 0) false, gd := some (34, true) },
    { op := .mov 36 (.s 7) false, gd := some (34, true) },
    { op := .iaddrS 37 2 (.s 35) (.s 36), gd := some (34, true) },
    { op := .faddr 38 1 (.s 37), gd := some (34, true) },
    { op := .load 39 1 false (.s 38), gd := some (34, true) },
    { op := .pick 40 (.s 34) (.s 39) (.c (.bool false)) }] none false [0, 1, 2, 7, 8, 40] [])
  (.cond (.s 40) (.seq (.region [{ op := .mov 41 (.s 8) false },
    { op := .un 42 .neg (.s 41) },
    { op := .mov 6 (.s 42) false }] none false [6] [])
  .ret) (.skip [0, 1, 2, 7, 8] [])))
  (.seq (.region [{ op := .mov 43 (.s 8) false },
    { op := .bin 44 .neq (.s 43) (.c (.int .i64 0)) }] none false [0, 1, 2, 7, 8, 44] [])
  (.cond (.s 44) (.seq (.region [{ op := .mov 45 (.s 8) false },
    { op := .mov 6 (.s 45) false }] none false [6] [])
  .ret) (.skip [0, 1, 2, 7] []))))))
  (.region [{ op := .mov 13 (.s 7) false },
    { op := .bin 14 .add (.s 13) (.c (.int .i64 1)) },
    { op := .mov 7 (.s 14) false }] none false [0, 1, 2, 7] [])))
def a29 : AFun := { n := 3, N := 49, res := [.tmp 6], body :=
  (.seq (.region [{ op := .mov 6 (.c (.int .i64 0)) false }] none false [0, 1, 2] [])
  (.seq (.seq (.region [{ op := .mov 7 (.c (.int .i64 0)) false }] none false [0, 1, 2, 7] [])
  (.block 0 (.loop a29_l0)))
  (.seq (.region [{ op := .mov 46 (.s 1) true },
    { op := .mov 47 (.s 2) true },
    { op := .call (some 48) 46 [(.s 46), (.s 47)] },
    { op := .mov 6 (.s 48) false }] none false [6] [])
  .ret))) }

-- tactician/traits.right
def a30 : AFun := { n := 3, N := 23, res := [.tmp 6], body :=
  (.seq (.region [{ op := .box 3 false (.s 0) },
    { op := .box 4 false (.s 1) },
    { op := .mov 6 (.c (.int .i64 0)) false }] none false [2, 3, 4] [3, 4])
  (.seq (.seq (.freeze 3 (.region [{ op := .load 7 1 false (.s 3) },
    { op := .bin 8 .lss (.s 7) (.c (.int .i64 1)) },
    { op := .mov 9 (.s 8) false },
    { op := .load 10 1 false (.s 3), gd := some (9, false) },
    { op := .bin 11 .gtr (.s 10) (.c (.int .i64 16)), gd := some (9, false) },
    { op := .pick 12 (.s 9) (.c (.bool true)) (.s 11) }] none false [2, 3, 4, 12] [3, 4]))
  (.cond (.s 12) (.seq (.region [{ op := .mov 6 (.c (.int .i64 1)) false }] none false [6] [])
  .ret) (.skip [2, 3, 4] [3, 4])))
  (.seq (.seq (.region [{ op := .load 13 1 false (.s 3) },
    { op := .load 14 3 true (.s 4) },
    { op := .call (some 15) 61 [(.s 13), (.s 14)] },
    { op := .un 16 .not (.s 15) },
    { op := .mov 17 (.s 16) false },
    { op := .mov 18 (.s 2) true, gd := some (17, false) },
    { op := .mkfn 19 (.func 63) [] [(.s 3)], gd := some (17, false) },
    { op := .call (some 20) 62 [(.s 18), (.s 19)], gd := some (17, false) },
    { op := .un 21 .not (.s 20), gd := some (17, false) },
    { op := .pick 22 (.s 17) (.c (.bool true)) (.s 21) }] none false [22] [])
  (.cond (.s 22) (.seq (.region [{ op := .mov 6 (.c (.int .i64 180)) false }] none false [6] [])
  .ret) (.skip [] [])))
  (.seq (.region [{ op := .mov 6 (.c (.int .i64 0)) false }] none false [6] [])
  .ret)))) }

-- tactician/traits.areRows
def a31 : AFun := { n := 2, N := 13, res := [.tmp 4], body :=
  (.seq (.region [{ op := .box 2 false (.s 0) },
    { op := .mov 4 (.c (.bool false)) false }] none false [1, 2] [2])
  (.seq (.freeze 2 (.region [{ op := .mov 5 (.s 1) false },
    { op := .len 6 false (.s 5) },
    { op := .bin 7 .leq (.s 6) (.c (.int .i64 20000)) },
    { op := .mov 8 (.s 7) false },
    { op := .mov 9 (.s 1) true, gd := some (8, true) },
    { op := .mkfn 10 (.func 65) [] [(.s 2)], gd := some (8, true) },
    { op := .call (some 11) 34 [(.s 9), (.s 10)], gd := some (8, true) },
    { op := .pick 12 (.s 8) (.s 11) (.c (.bool false)) },
    { op := .mov 4 (.s 12) false }] none false [4] []))
  .ret)) }

-- tactician/traits.all[int]
def a32 : AFun := { n := 2, N := 9, res := [.tmp 4], body :=
  (.seq (.region [{ op := .box 3 false (.s 1) },
    { op := .mov 4 (.c (.bool false)) false }] none false [0, 3] [3])
  (.seq (.freeze 3 (.region [{ op := .mov 5 (.s 0) true },
    { op := .mkfn 6 (.func 69) [] [(.s 3)] },
    { op := .call (some 7) 68 [(.s 5), (.s 6)] },
    { op := .un 8 .not (.s 7) },
    { op := .mov 4 (.s 8) false }] none false [4] []))
  .ret)) }

-- tactician/traits.Holds$1
def a33 : AFun := { n := 2, N := 7, res := [.tmp 3], body :=
  (.seq (.region [{ op := .box 2 false (.s 0) },
    { op := .mov 3 (.c (.bool false)) false }] none false [1, 2] [2])
  (.seq (.freeze 2 (.region [{ op := .load 4 1 false (.s 1) },
    { op := .mkfn 5 (.func 35) [] [(.s 2), (.s 1)] },
    { op := .call (some 6) 34 [(.s 4), (.s 5)] },
    { op := .mov 3 (.s 6) false }] none false [3] []))
  .ret)) }

-- tactician/traits.all[[]tactician/api.Value]
def a34 : AFun := { n := 2, N := 9, res := [.tmp 4], body :=
  (.seq (.region [{ op := .box 3 false (.s 1) },
    { op := .mov 4 (.c (.bool false)) false }] none false [0, 3] [3])
  (.seq (.freeze 3 (.region [{ op := .mov 5 (.s 0) true },
    { op := .mkfn 6 (.func 71) [] [(.s 3)] },
    { op := .call (some 7) 70 [(.s 5), (.s 6)] },
    { op := .un 8 .not (.s 7) },
    { op := .mov 4 (.s 8) false }] none false [4] []))
  .ret)) }

-- tactician/traits.Holds$1$1
def a35 : AFun := { n := 3, N := 16, res := [.tmp 4], body :=
  (.seq (.region [{ op := .mov 4 (.c (.bool false)) false }] none false [0, 1, 2] [])
  (.seq (.region [{ op := .mov 5 (.s 0) true },
    { op := .load 6 1 false (.s 1) },
    { op := .iaddrS 7 3 (.s 5) (.s 6) },
    { op := .load 8 3 true (.s 7), blk := some 99999 },
    { op := .load 9 1 false (.s 2) },
    { op := .iaddrS 10 1 (.s 9) (.c (.int .i64 0)) },
    { op := .load 11 1 false (.s 10), blk := some 99999 },
    { op := .load 12 1 false (.s 1) },
    { op := .iaddrS 13 3 (.s 11) (.s 12) },
    { op := .load 14 3 true (.s 13), blk := some 99999 },
    { op := .eqagg 15 false [0, 0, 2] (.s 8) (.s 14) },
    { op := .mov 4 (.s 15) false }] (some [0, 0, 3, 7, 0, 16, 48, 0, 240, 496, 1023, 2047]) true [4] [])
  .ret)) }

-- tactician/traits.all[[2]int]
def a36 : AFun := { n := 2, N := 9, res := [.tmp 4], body :=
  (.seq (.region [{ op := .box 3 false (.s 1) },
    { op := .mov 4 (.c (.bool false)) false }] none false [0, 3] [3])
  (.seq (.freeze 3 (.region [{ op := .mov 5 (.s 0) true },
    { op := .mkfn 6 (.func 73) [] [(.s 3)] },
    { op := .call (some 7) 72 [(.s 5), (.s 6)] },
    { op := .un 8 .not (.s 7) },
    { op := .mov 4 (.s 8) false }] none false [4] []))
  .ret)) }

-- tactician/traits.Holds$2
def a37 : AFun := { n := 2, N := 7, res := [.tmp 3], body :=
  (.seq (.region [{ op := .box 2 false (.s 0) },
    { op := .mov 3 (.c (.bool false)) false }] none false [1, 2] [2])
  (.seq (.freeze 2 (.region [{ op := .load 4 1 false (.s 1) },
    { op := .mkfn 5 (.func 38) [] [(.s 2)] },
    { op := .call (some 6) 34 [(.s 4), (.s 5)] },
    { op := .mov 3 (.s 6) false }] none false [3] []))
  .ret)) }

-- tactician/traits.Holds$2$1
def a38 : AFun := { n := 2, N := 15, res := [.tmp 3], body :=
  (.seq (.region [{ op := .mov 3 (.c (.bool false)) false }] none false [0, 1] [])
  (.seq (.region [{ op := .mov 4 (.s 0) false },
    { op := .iaddrA 5 2 1 (.s 1) (.c (.int .i64 0)) },
    { op := .load 6 1 false (.s 5) },
    { op := .iaddrS 7 3 (.s 4) (.s 6) },
    { op := .load 8 3 true (.s 7), blk := some 99999 },
    { op := .mov 9 (.s 0) false },
    { op := .iaddrA 10 2 1 (.s 1) (.c (.int .i64 1)) },
    { op := .load 11 1 false (.s 10) },
    { op := .iaddrS 12 3 (.s 9) (.s 11) },
    { op := .load 13 3 true (.s 12), blk := some 99999 },
    { op := .eqagg 14 false [0, 0, 2] (.s 8) (.s 13) },
    { op := .mov 3 (.s 14) false }] (some [0, 0, 2, 7, 15, 0, 0, 64, 224, 480, 1023, 2047]) true [3] [])
  .ret)) }

-- tactician/traits.all[[]int]
def a39 : AFun := { n := 2, N := 9, res := [.tmp 4], body :=
  (.seq (.region [{ op := .box 3 false (.s 1) },
    { op := .mov 4 (.c (.bool false)) false }] none false [0, 3] [3])
  (.seq (.freeze 3 (.region [{ op := .mov 5 (.s 0) true },
    { op := .mkfn 6 (.func 75) [] [(.s 3)] },
    { op := .call (some 7) 74 [(.s 5), (.s 6)] },
    { op := .un 8 .not (.s 7) },
    { op := .mov 4 (.s 8) false }] none false [4] []))
  .ret)) }

-- tactician/traits.Holds$3
def a40 : AFun := { n := 2, N := 7, res := [.tmp 3], body :=
  (.seq (.region [{ op := .mov 3 (.c (.bool false)) false }] none false [0, 1] [])
  (.seq (.region [{ op := .load 4 1 false (.s 1) },
    { op := .mov 5 (.s 0) true },
    { op := .call (some 6) 41 [(.s 4), (.s 5)] },
    { op := .mov 3 (.s 6) false }] none false [3] [])
  .ret)) }

-- tactician/traits.unique
def a41_l0 : ACode := (.seq (.region [{ op := .bin 21 .lss (.s 20) (.s 19) }] none false [1, 5, 7, 8, 12, 13, 14, 18, 19, 20, 21] [])
  (.seq (.cond (.s 21) (.skip [1, 5, 7, 8, 12, 13, 14, 18, 19, 20] []) (.exit 2 [1, 5, 8, 12, 13, 14] []))
  (.seq (.block 3 (.seq (.region [{ op := .iaddrS 22 1 (.s 18) (.s 20) },
    { op := .load 23 1 false (.s 22) },
    { op := .mov 10 (.s 23) false }] none false [1, 5, 7, 8, 10, 12, 13, 14, 18, 19, 20] [])
  (.region [{ op := .mov 24 (.s 8) false },
    { op := .mov 25 (.s 7) false },
    { op := .mov 26 (.s 10) false },
    { op := .iaddrS 27 3 (.s 25) (.s 26) },
    { op := .load 28 3 true (.s 27) },
    { op := .call (some 29) 76 [(.s 28)] },
    { op := .bin 30 .add (.s 29) (.c (.str ⟨#[44]⟩)) },
    { op := .bin 31 .add (.s 24) (.s 30) },
    { op := .mov 8 (.s 31) false }] none false [1, 5, 7, 8, 12, 13, 14, 18, 19, 20] [])))
  (.region [{ op := .bin 32 .add (.s 20) (.c (.int .i64 1)) },
    { op := .mov 20 (.s 32) false }] none false [1, 5, 7, 8, 12, 13, 14, 18, 19, 20] []))))
def a41_l1 : ACode := (.seq (.region [{ op := .bin 15 .lss (.s 14) (.s 13) }] none false [1, 5, 12, 13, 14, 15] [])
  (.seq (.cond (.s 15) (.skip [1, 5, 12, 13, 14] []) (.exit 0 [] []))
  (.seq (.block 1 (.seq (.region [{ op := .iaddrS 16 1 (.s 12) (.s 14) },
    { op := .load 17 1 false (.s 16) },
    { op := .mov 7 (.s 17) true }] none false [1, 5, 7, 12, 13, 14] [])
  (.seq (.region [{ op := .mov 8 (.c (.str ⟨#[]⟩)) false }] none false [1, 5, 7, 8, 12, 13, 14] [])
  (.seq (.seq (.region [{ op := .mov 18 (.s 1) false },
    { op := .len 19 false (.s 18) },
    { op := .mov 20 (.c (.int .i64 0)) false }] none false [1, 5, 7, 8, 12, 13, 14, 18, 19, 20] [])
  (.block 2 (.loop a41_l0)))
  (.seq (.seq (.region [{ op := .mov 33 (.s 5) false },
    { op := .mov 34 (.s 8) false },
    { op := .lookup 35 false none (.bool false) (.s 33) (.s 34) }] none false [1, 5, 8, 12, 13, 14, 35] [])
  (.cond (.s 35) (.seq (.region [{ op := .mov 4 (.c (.bool false)) false }] none false [4] [])
  .ret) (.skip [1, 5, 8, 12, 13, 14] [])))
  (.region [{ op := .mov 36 (.s 5) false },
    { op := .mov 37 (.s 8) false },
    { op := .mapUpd none (.s 36) (.s 37) (.c (.bool true)) }] none false [1, 5, 12, 13, 14] []))))))
  (.region [{ op := .bin 38 .add (.s 14) (.c (.int .i64 1)) },
    { op := .mov 14 (.s 38) false }] none false [1, 5, 12, 13, 14] []))))
def a41 : AFun := { n := 2, N := 39, res := [.tmp 4], body :=
  (.seq (.region [{ op := .mov 4 (.c (.bool false)) false }] none false [0, 1] [])
  (.seq (.region [{ op := .makeMap 11 },
    { op := .mov 5 (.s 11) false }] none false [0, 1, 5] [])
  (.seq (.seq (.region [{ op := .mov 12 (.s 0) true },
    { op := .len 13 false (.s 12) },
    { op := .mov 14 (.c (.int .i64 0)) false }] none false [1, 5, 12, 13, 14] [])
  (.block 0 (.loop a41_l1)))
  (.seq (.region [{ op := .mov 4 (.c (.bool true)) false }] none false [4] [])
  .ret)))) }

-- slices.IsSortedFunc[[][]tactician/api.Value,[]tactician/api.Value]
def a42_l0 : ACode := (.seq (.seq (.region [{ op := .mov 9 (.s 5) false },
    { op := .bin 10 .gtr (.s 9) (.c (.int .i64 0)) }] none false [0, 1, 5, 10] [])
  (.cond (.s 10) (.skip [0, 1, 5] []) (.exit 0 [] [])))
  (.seq (.block 1 (.seq (.region [{ op := .mov 13 (.s 1) false },
    { op := .mov 14 (.s 0) false },
    { op := .mov 15 (.s 5) false },
    { op := .iaddrS 16 1 (.s 14) (.s 15) },
    { op := .load 17 1 false (.s 16), blk := some 99999 },
    { op := .mov 18 (.s 0) false },
    { op := .mov 19 (.s 5) false },
    { op := .bin 20 .sub (.s 19) (.c (.int .i64 1)) },
    { op := .iaddrS 21 1 (.s 18) (.s 20) },
    { op := .load 22 1 false (.s 21), blk := some 99999 },
    { op := .callv (some 23) (.s 13) [(.s 17), (.s 22)] },
    { op := .bin 24 .lss (.s 23) (.c (.int .i64 0)) }] (some [0, 0, 0, 6, 14, 0, 0, 64, 224, 480, 1023, 2047]) true [0, 1, 5, 24] [])
  (.cond (.s 24) (.seq (.region [{ op := .mov 4 (.c (.bool false)) false }] none false [4] [])
  .ret) (.skip [0, 1, 5] []))))
  (.region [{ op := .mov 11 (.s 5) false },
    { op := .bin 12 .sub (.s 11) (.c (.int .i64 1)) },
    { op := .mov 5 (.s 12) false }] none false [0, 1, 5] [])))
def a42 : AFun := { n := 2, N := 25, res := [.tmp 4], body :=
  (.seq (.region [{ op := .mov 4 (.c (.bool false)) false }] none false [0, 1] [])
  (.seq (.seq (.region [{ op := .mov 6 (.s 0) false },
    { op := .len 7 false (.s 6) },
    { op := .bin 8 .sub (.s 7) (.c (.int .i64 1)) },
    { op := .mov 5 (.s 8) false }] none false [0, 1, 5] [])
  (.block 0 (.loop a42_l0)))
  (.seq (.region [{ op := .mov 4 (.c (.bool true)) false }] none false [4] [])
  .ret))) }

-- tactician/traits.Sorted$1
def a43 : AFun := { n := 3, N := 10, res := [.tmp 5], body :=
  (.seq (.region [{ op := .mov 5 (.c (.int .i64 0)) false }] none false [0, 1, 2] [])
  (.seq (.region [{ op := .load 6 1 false (.s 2) },
    { op := .mov 7 (.s 0) true },
    { op := .mov 8 (.s 1) true },
    { op := .call (some 9) 44 [(.s 6), (.s 7), (.s 8)] },
    { op := .mov 5 (.s 9) false }] none false [5] [])
  .ret)) }

-- tactician/traits.Compare
def a44_l0 : ACode := (.seq (.region [{ op := .bin 13 .lss (.s 12) (.s 11) }] none false [1, 2, 10, 11, 12, 13] [])
  (.seq (.cond (.s 13) (.skip [1, 2, 10, 11, 12] []) (.exit 0 [] []))
  (.seq (.block 1 (.seq (.region [{ op := .iaddrS 14 2 (.s 10) (.s 12) },
    { op := .load 15 2 true (.s 14) },
    { op := .alloc 8 false [.int .i64 0, .bool false] [] },
    { op := .store (.s 8) (.s 15) 2 false }] none false [1, 2, 8, 10, 11, 12] [8])
  (.seq (.region [{ op := .mov 16 (.s 1) false },
    { op := .faddr 17 0 (.s 8) },
    { op := .load 18 1 false (.s 17), blk := some 8 },
    { op := .iaddrS 19 3 (.s 16) (.s 18) },
    { op := .load 20 3 true (.s 19), blk := some 99999 },
    { op := .mov 21 (.s 2) false },
    { op := .faddr 22 0 (.s 8) },
    { op := .load 23 1 false (.s 22), blk := some 8 },
    { op := .iaddrS 24 3 (.s 21) (.s 23) },
    { op := .load 25 3 true (.s 24), blk := some 99999 },
    { op := .call (some 26) 77 [(.s 20), (.s 25)] },
    { op := .mov 9 (.s 26) false }] (some [0, 0, 2, 7, 15, 0, 0, 64, 224, 480, 1023, 2047]) true [1, 2, 8, 9, 10, 11, 12] [8])
  (.seq (.region [{ op := .mov 27 (.s 9) false },
    { op := .bin 28 .neq (.s 27) (.c (.int .i64 0)) }] none false [1, 2, 8, 9, 10, 11, 12, 28] [8])
  (.cond (.s 28) (.seq (.seq (.region [{ op := .faddr 29 1 (.s 8) },
    { op := .load 30 1 false (.s 29) }] none false [9, 30] [])
  (.cond (.s 30) (.seq (.region [{ op := .mov 31 (.s 9) false },
    { op := .un 32 .neg (.s 31) },
    { op := .mov 6 (.s 32) false }] none false [6] [])
  .ret) (.skip [9] [])))
  (.seq (.region [{ op := .mov 33 (.s 9) false },
    { op := .mov 6 (.s 33) false }] none false [6] [])
  .ret)) (.skip [1, 2, 10, 11, 12] []))))))
  (.region [{ op := .bin 34 .add (.s 12) (.c (.int .i64 1)) },
    { op := .mov 12 (.s 34) false }] none false [1, 2, 10, 11, 12] []))))
def a44 : AFun := { n := 3, N := 35, res := [.tmp 6], body :=
  (.seq (.region [{ op := .mov 6 (.c (.int .i64 0)) false }] none false [0, 1, 2] [])
  (.seq (.seq (.region [{ op := .mov 10 (.s 0) true },
    { op := .len 11 false (.s 10) },
    { op := .mov 12 (.c (.int .i64 0)) false }] none false [1, 2, 10, 11, 12] [])
  (.block 0 (.loop a44_l0)))
  (.seq (.region [{ op := .mov 6 (.c (.int .i64 0)) false }] none false [6] [])
  .ret))) }

-- tactician/tacticianref02.AllRight
def a45_l0 : ACode := (.seq (.seq (.region [{ op := .mov 4 (.s 3) false },
    { op := .mov 5 (.s 0) false },
    { op := .len 6 false (.s 5) },
    { op := .bin 7 .lss (.s 4) (.s 6) }] none false [0, 3, 7] [])
  (.cond (.s 7) (.skip [0, 3] []) (.exit 0 [] [])))
  (.seq (.block 1 (.seq (.region [{ op := .mov 10 (.s 0) false },
    { op := .mov 11 (.s 3) false },
    { op := .iaddrS 12 1 (.s 10) (.s 11) },
    { op := .load 13 1 false (.s 12) },
    { op := .call (some 14) 78 [(.s 13)] },
    { op := .un 15 .not (.s 14) }] none false [0, 3, 15] [])
  (.cond (.s 15) (.seq (.region [{ op := .mov 2 (.c (.bool false)) false }] none false [2] [])
  .ret) (.skip [0, 3] []))))
  (.region [{ op := .mov 8 (.s 3) false },
    { op := .bin 9 .add (.s 8) (.c (.int .i64 1)) },
    { op := .mov 3 (.s 9) false }] none false [0, 3] [])))
def a45 : AFun := { n := 1, N := 16, res := [.tmp 2], body :=
  (.seq (.region [{ op := .mov 2 (.c (.bool false)) false }] none false [0] [])
  (.seq (.seq (.region [{ op := .mov 3 (.c (.int .i64 0)) false }] none false [0, 3] [])
  (.block 0 (.loop a45_l0)))
  (.seq (.region [{ op := .mov 2 (.c (.bool true)) false }] none false [2] [])
  .ret))) }

-- tactician/tacticianref02.Compare
def a46_l0 : ACode := (.seq (.seq (.region [{ op := .mov 7 (.s 5) false },
    { op := .mov 8 (.s 0) false },
    { op := .len 9 false (.s 8) },
    { op := .bin 10 .lss (.s 7) (.s 9) },
    { op := .mov 11 (.s 10) false },
    { op := .mov 12 (.s 5) false, gd := some (11, true) },
    { op := .mov 13 (.s 1) false, gd := some (11, true) },
    { op := .len 14 false (.s 13), gd := some (11, true) },
    { op := .bin 15 .lss (.s 12) (.s 14), gd := some (11, true) },
    { op := .pick 16 (.s 11) (.s 15) (.c (.bool false)) }] none false [0, 1, 5, 16] [])
  (.cond (.s 16) (.skip [0, 1, 5] []) (.exit 0 [0, 1] [])))
  (.seq (.block 1 (.seq (.region [{ op := .mov 19 (.s 0) false },
    { op := .mov 20 (.s 5) false },
    { op := .iaddrS 21 3 (.s 19) (.s 20) },
    { op := .load 22 3 true (.s 21), blk := some 99999 },
    { op := .mov 23 (.s 1) false },
    { op := .mov 24 (.s 5) false },
    { op := .iaddrS 25 3 (.s 23) (.s 24) },
    { op := .load 26 3 true (.s 25), blk := some 99999 },
    { op := .call (some 27) 48 [(.s 22), (.s 26)] },
    { op := .mov 6 (.s 27) false }] (some [0, 0, 3, 7, 0, 0, 48, 112, 255, 511]) true [0, 1, 5, 6] [])
  (.seq (.region [{ op := .mov 28 (.s 6) false },
    { op := .bin 29 .neq (.s 28) (.c (.int .i64 0)) }] none false [0, 1, 5, 6, 29] [])
  (.cond (.s 29) (.seq (.region [{ op := .mov 30 (.s 6) false },
    { op := .mov 4 (.s 30) false }] none false [4] [])
  .ret) (.skip [0, 1, 5] [])))))
  (.region [{ op := .mov 17 (.s 5) false },
    { op := .bin 18 .add (.s 17) (.c (.int .i64 1)) },
    { op := .mov 5 (.s 18) false }] none false [0, 1, 5] [])))
def a46 : AFun := { n := 2, N := 41, res := [.tmp 4], body :=
  (.seq (.region [{ op := .mov 4 (.c (.int .i64 0)) false }] none false [0, 1] [])
  (.seq (.seq (.region [{ op := .mov 5 (.c (.int .i64 0)) false }] none false [0, 1, 5] [])
  (.block 0 (.loop a46_l0)))
  (.seq (.seq (.region [{ op := .mov 31 (.s 0) false },
    { op := .len 32 false (.s 31) },
    { op := .mov 33 (.s 1) false },
    { op := .len 34 false (.s 33) },
    { op := .bin 35 .neq (.s 32) (.s 34) }] none false [0, 1, 35] [])
  (.cond (.s 35) (.seq (.seq (.region [{ op := .mov 36 (.s 0) true },
    { op := .len 37 false (.s 36) },
    { op := .mov 38 (.s 1) true },
    { op := .len 39 false (.s 38) },
    { op := .bin 40 .lss (.s 37) (.s 39) }] none false [40] [])
  (.cond (.s 40) (.seq (.region [{ op := .mov 4 (.c (.int .i64 (-1))) false }] none false [4] [])
  .ret) (.skip [] [])))
  (.seq (.region [{ op := .mov 4 (.c (.int .i64 1)) false }] none false [4] [])
  .ret)) (.skip [] [])))
  (.seq (.region [{ op := .mov 4 (.c (.int .i64 0)) false }] none false [4] [])
  .ret)))) }

-- tactician/tacticianref02.At
def a47_l0 : ACode := (.seq (.seq (.region [{ op := .mov 7 (.s 6) false },
    { op := .mov 8 (.s 1) false },
    { op := .len 9 false (.s 8) },
    { op := .bin 10 .lss (.s 7) (.s 9) }] none false [0, 1, 5, 6, 10] [])
  (.cond (.s 10) (.skip [0, 1, 5, 6] []) (.exit 0 [5] [])))
  (.seq (.block 1 (.region [{ op := .mov 13 (.s 5) true },
    { op := .mov 14 (.s 0) false },
    { op := .mov 15 (.s 1) false },
    { op := .mov 16 (.s 6) false },
    { op := .iaddrS 17 1 (.s 15) (.s 16) },
    { op := .load 18 1 false (.s 17) },
    { op := .iaddrS 19 3 (.s 14) (.s 18) },
    { op := .load 20 3 true (.s 19) },
    { op := .bslice 21 3 71 [(.s 20)] },
    { op := .append 22 3 71 32 (.s 13) (.s 21) },
    { op := .mov 5 (.s 22) true }] none false [0, 1, 5, 6] []))
  (.region [{ op := .mov 11 (.s 6) false },
    { op := .bin 12 .add (.s 11) (.c (.int .i64 1)) },
    { op := .mov 6 (.s 12) false }] none false [0, 1, 5, 6] [])))
def a47 : AFun := { n := 2, N := 24, res := [.tmp 4], body :=
  (.seq (.region [{ op := .nils 4 3 71 }] none false [0, 1] [])
  (.seq (.region [{ op := .nils 5 3 71 }] none false [0, 1, 5] [])
  (.seq (.seq (.region [{ op := .mov 6 (.c (.int .i64 0)) false }] none false [0, 1, 5, 6] [])
  (.block 0 (.loop a47_l0)))
  (.seq (.region [{ op := .mov 23 (.s 5) true },
    { op := .mov 4 (.s 23) true }] none false [4] [])
  .ret)))) }

-- tactician/tacticianref01.Compare
def a48_l0 : ACode := (.seq (.seq (.region [{ op := .mov 26 (.s 5) false },
    { op := .faddr 27 2 (.s 2) },
    { op := .load 28 1 false (.s 27) },
    { op := .len 29 true (.s 28) },
    { op := .bin 30 .lss (.s 26) (.s 29) },
    { op := .mov 31 (.s 30) false },
    { op := .mov 32 (.s 5) false, gd := some (31, true) },
    { op := .faddr 33 2 (.s 3), gd := some (31, true) },
    { op := .load 34 1 false (.s 33), gd := some (31, true) },
    { op := .len 35 true (.s 34), gd := some (31, true) },
    { op := .bin 36 .lss (.s 32) (.s 35), gd := some (31, true) },
    { op := .pick 37 (.s 31) (.s 36) (.c (.bool false)) }] none false [2, 3, 5, 37] [2, 3])
  (.cond (.s 37) (.skip [2, 3, 5] [2, 3]) (.exit 0 [2, 3] [2, 3])))
  (.seq (.block 1 (.seq (.region [{ op := .faddr 40 2 (.s 2) },
    { op := .load 41 1 false (.s 40), blk := some 2 },
    { op := .mov 42 (.s 5) false },
    { op := .idxS 43 (.s 41) (.s 42) },
    { op := .faddr 44 2 (.s 3) },
    { op := .load 45 1 false (.s 44), blk := some 3 },
    { op := .mov 46 (.s 5) false },
    { op := .idxS 47 (.s 45) (.s 46) },
    { op := .bin 48 .neq (.s 43) (.s 47) }] (some [0, 1, 0, 7, 0, 16, 0, 112, 255]) true [2, 3, 5, 48] [2, 3])
  (.cond (.s 48) (.seq (.seq (.region [{ op := .faddr 49 2 (.s 2) },
    { op := .load 50 1 false (.s 49), blk := some 2 },
    { op := .mov 51 (.s 5) false },
    { op := .idxS 52 (.s 50) (.s 51) },
    { op := .faddr 53 2 (.s 3) },
    { op := .load 54 1 false (.s 53), blk := some 3 },
    { op := .mov 55 (.s 5) false },
    { op := .idxS 56 (.s 54) (.s 55) },
    { op := .bin 57 .lss (.s 52) (.s 56) }] (some [0, 1, 0, 7, 0, 16, 0, 112, 255]) true [57] [])
  (.cond (.s 57) (.seq (.region [{ op := .mov 4 (.c (.int .i64 (-1))) false }] none false [4] [])
  .ret) (.skip [] [])))
  (.seq (.region [{ op := .mov 4 (.c (.int .i64 1)) false }] none false [4] [])
  .ret)) (.skip [2, 3, 5] [2, 3]))))
  (.region [{ op := .mov 38 (.s 5) false },
    { op := .bin 39 .add (.s 38) (.c (.int .i64 1)) },
    { op := .mov 5 (.s 39) false }] none false [2, 3, 5] [2, 3])))
def a48 : AFun := { n := 2, N := 72, res := [.tmp 4], body :=
  (.seq (.region [{ op := .box 2 false (.s 0) },
    { op := .box 3 false (.s 1) },
    { op := .mov 4 (.c (.int .i64 0)) false }] none false [2, 3] [2, 3])
  (.seq (.seq (.region [{ op := .faddr 6 0 (.s 2) },
    { op := .load 7 1 false (.s 6) },
    { op := .faddr 8 0 (.s 3) },
    { op := .load 9 1 false (.s 8) },
    { op := .bin 10 .neq (.s 7) (.s 9) }] none false [2, 3, 10] [2, 3])
  (.cond (.s 10) (.seq (.seq (.region [{ op := .faddr 11 0 (.s 2) },
    { op := .load 12 1 false (.s 11) },
    { op := .faddr 13 0 (.s 3) },
    { op := .load 14 1 false (.s 13) },
    { op := .bin 15 .lss (.s 12) (.s 14) }] none false [15] [])
  (.cond (.s 15) (.seq (.region [{ op := .mov 4 (.c (.int .i64 (-1))) false }] none false [4] [])
  .ret) (.skip [] [])))
  (.seq (.region [{ op := .mov 4 (.c (.int .i64 1)) false }] none false [4] [])
  .ret)) (.skip [2, 3] [2, 3])))
  (.seq (.seq (.region [{ op := .faddr 16 1 (.s 2) },
    { op := .load 17 1 false (.s 16) },
    { op := .faddr 18 1 (.s 3) },
    { op := .load 19 1 false (.s 18) },
    { op := .bin 20 .neq (.s 17) (.s 19) }] none false [2, 3, 20] [2, 3])
  (.cond (.s 20) (.seq (.seq (.region [{ op := .faddr 21 1 (.s 2) },
    { op := .load 22 1 false (.s 21) },
    { op := .faddr 23 1 (.s 3) },
    { op := .load 24 1 false (.s 23) },
    { op := .bin 25 .lss (.s 22) (.s 24) }] none false [25] [])
  (.cond (.s 25) (.seq (.region [{ op := .mov 4 (.c (.int .i64 (-1))) false }] none false [4] [])
  .ret) (.skip [] [])))
  (.seq (.region [{ op := .mov 4 (.c (.int .i64 1)) false }] none false [4] [])
  .ret)) (.skip [2, 3] [2, 3])))
  (.seq (.seq (.region [{ op := .mov 5 (.c (.int .i64 0)) false }] none false [2, 3, 5] [2, 3])
  (.block 0 (.loop a48_l0)))
  (.seq (.seq (.region [{ op := .faddr 58 2 (.s 2) },
    { op := .load 59 1 false (.s 58) },
    { op := .len 60 true (.s 59) },
    { op := .faddr 61 2 (.s 3) },
    { op := .load 62 1 false (.s 61) },
    { op := .len 63 true (.s 62) },
    { op := .bin 64 .neq (.s 60) (.s 63) }] none false [2, 3, 64] [2, 3])
  (.cond (.s 64) (.seq (.seq (.region [{ op := .faddr 65 2 (.s 2) },
    { op := .load 66 1 false (.s 65) },
    { op := .len 67 true (.s 66) },
    { op := .faddr 68 2 (.s 3) },
    { op := .load 69 1 false (.s 68) },
    { op := .len 70 true (.s 69) },
    { op := .bin 71 .lss (.s 67) (.s 70) }] none false [71] [])
  (.cond (.s 71) (.seq (.region [{ op := .mov 4 (.c (.int .i64 (-1))) false }] none false [4] [])
  .ret) (.skip [] [])))
  (.seq (.region [{ op := .mov 4 (.c (.int .i64 1)) false }] none false [4] [])
  .ret)) (.skip [] [])))
  (.seq (.region [{ op := .mov 4 (.c (.int .i64 0)) false }] none false [4] [])
  .ret)))))) }

-- tactician/tacticianref18.Known
def a49_l0 : ACode := (.seq (.seq (.region [{ op := .mov 30 (.s 5) false },
    { op := .faddr 31 1 (.s 3) },
    { op := .load 32 1 false (.s 31) },
    { op := .len 33 false (.s 32) },
    { op := .bin 34 .lss (.s 30) (.s 33) }] none false [0, 3, 5, 34] [3])
  (.cond (.s 34) (.skip [0, 3, 5] [3]) (.exit 0 [0, 3] [3])))
  (.seq (.block 1 (.seq (.region [{ op := .mov 37 (.s 0) false },
    { op := .faddr 38 1 (.s 3) },
    { op := .load 39 1 false (.s 38) },
    { op := .mov 40 (.s 5) false },
    { op := .iaddrS 41 2 (.s 39) (.s 40) },
    { op := .sliceA 42 2 1 false (.s 41) none none },
    { op := .call (some 43) 79 [(.s 37), (.s 42)] },
    { op := .un 44 .not (.s 43) }] none false [0, 3, 5, 44] [3])
  (.cond (.s 44) (.seq (.region [{ op := .mov 4 (.c (.bool false)) false }] none false [4] [])
  .ret) (.skip [0, 3, 5] [3]))))
  (.region [{ op := .mov 35 (.s 5) false },
    { op := .bin 36 .add (.s 35) (.c (.int .i64 1)) },
    { op := .mov 5 (.s 36) false }] none false [0, 3, 5] [3])))
def a49_l1 : ACode := (.seq (.seq (.region [{ op := .mov 45 (.s 6) false },
    { op := .faddr 46 2 (.s 3) },
    { op := .load 47 1 false (.s 46) },
    { op := .len 48 false (.s 47) },
    { op := .bin 49 .lss (.s 45) (.s 48) }] none false [0, 3, 6, 49] [3])
  (.cond (.s 49) (.skip [0, 3, 6] [3]) (.exit 2 [] [])))
  (.seq (.block 3 (.seq (.region [{ op := .faddr 52 2 (.s 3) },
    { op := .load 53 1 false (.s 52) },
    { op := .mov 54 (.s 6) false },
    { op := .iaddrS 55 1 (.s 53) (.s 54) },
    { op := .load 56 1 false (.s 55) },
    { op := .len 57 false (.s 56) },
    { op := .bin 58 .gtr (.s 57) (.c (.int .i64 16)) },
    { op := .mov 59 (.s 58) false },
    { op := .mov 60 (.s 0) false, gd := some (59, false) },
    { op := .faddr 61 2 (.s 3), gd := some (59, false) },
    { op := .load 62 1 false (.s 61), gd := some (59, false) },
    { op := .mov 63 (.s 6) false, gd := some (59, false) },
    { op := .iaddrS 64 1 (.s 62) (.s 63), gd := some (59, false) },
    { op := .load 65 1 false (.s 64), gd := some (59, false) },
    { op := .call (some 66) 79 [(.s 60), (.s 65)], gd := some (59, false) },
    { op := .un 67 .not (.s 66), gd := some (59, false) },
    { op := .pick 68 (.s 59) (.c (.bool true)) (.s 67) }] none false [0, 3, 6, 68] [3])
  (.cond (.s 68) (.seq (.region [{ op := .mov 4 (.c (.bool false)) false }] none false [4] [])
  .ret) (.skip [0, 3, 6] [3]))))
  (.region [{ op := .mov 50 (.s 6) false },
    { op := .bin 51 .add (.s 50) (.c (.int .i64 1)) },
    { op := .mov 6 (.s 51) false }] none false [0, 3, 6] [3])))
def a49 : AFun := { n := 2, N := 69, res := [.tmp 4], body :=
  (.seq (.region [{ op := .box 3 false (.s 1) },
    { op := .mov 4 (.c (.bool false)) false }] none false [0, 3] [3])
  (.seq (.seq (.region [{ op := .faddr 7 0 (.s 3) },
    { op := .load 8 1 false (.s 7) },
    { op := .len 9 false (.s 8) },
    { op := .bin 10 .gtr (.s 9) (.c (.int .i64 16)) },
    { op := .mov 11 (.s 10) false },
    { op := .faddr 12 1 (.s 3), gd := some (11, false) },
    { op := .load 13 1 false (.s 12), gd := some (11, false) },
    { op := .len 14 false (.s 13), gd := some (11, false) },
    { op := .bin 15 .gtr (.s 14) (.c (.int .i64 16)), gd := some (11, false) },
    { op := .pick 16 (.s 11) (.c (.bool true)) (.s 15) },
    { op := .mov 17 (.s 16) false },
    { op := .faddr 18 2 (.s 3), gd := some (17, false) },
    { op := .load 19 1 false (.s 18), gd := some (17, false) },
    { op := .len 20 false (.s 19), gd := some (17, false) },
    { op := .bin 21 .gtr (.s 20) (.c (.int .i64 16)), gd := some (17, false) },
    { op := .pick 22 (.s 17) (.c (.bool true)) (.s 21) },
    { op := .mov 23 (.s 22) false },
    { op := .mov 24 (.s 0) false, gd := some (23, false) },
    { op := .faddr 25 0 (.s 3), gd := some (23, false) },
    { op := .load 26 1 false (.s 25), gd := some (23, false) },
    { op := .call (some 27) 79 [(.s 24), (.s 26)], gd := some (23, false) },
    { op := .un 28 .not (.s 27), gd := some (23, false) },
    { op := .pick 29 (.s 23) (.c (.bool true)) (.s 28) }] none false [0, 3, 29] [3])
  (.cond (.s 29) (.seq (.region [{ op := .mov 4 (.c (.bool false)) false }] none false [4] [])
  .ret) (.skip [0, 3] [3])))
  (.seq (.seq (.region [{ op := .mov 5 (.c (.int .i64 0)) false }] none false [0, 3, 5] [3])
  (.block 0 (.loop a49_l0)))
  (.seq (.seq (.region [{ op := .mov 6 (.c (.int .i64 0)) false }] none false [0, 3, 6] [3])
  (.block 2 (.loop a49_l1)))
  (.seq (.region [{ op := .mov 4 (.c (.bool true)) false }] none false [4] [])
  .ret))))) }

-- tactician/tacticianref18.Keys
def a50_l0 : ACode := (.seq (.seq (.region [{ op := .mov 6 (.s 5) false },
    { op := .mov 7 (.s 1) false },
    { op := .len 8 false (.s 7) },
    { op := .bin 9 .lss (.s 6) (.s 8) }] none false [0, 1, 5, 9] [])
  (.cond (.s 9) (.skip [0, 1, 5] []) (.exit 0 [1] [])))
  (.seq (.block 1 (.seq (.region [{ op := .mov 12 (.s 1) false },
    { op := .mov 13 (.s 5) false },
    { op := .iaddrS 14 2 (.s 12) (.s 13) },
    { op := .faddr 15 0 (.s 14) },
    { op := .load 16 1 false (.s 15) },
    { op := .bin 17 .lss (.s 16) (.c (.int .i64 0)) },
    { op := .mov 18 (.s 17) false },
    { op := .mov 19 (.s 1) false, gd := some (18, false) },
    { op := .mov 20 (.s 5) false, gd := some (18, false) },
    { op := .iaddrS 21 2 (.s 19) (.s 20), gd := some (18, false) },
    { op := .faddr 22 0 (.s 21), gd := some (18, false) },
    { op := .load 23 1 false (.s 22), gd := some (18, false) },
    { op := .mov 24 (.s 0) false, gd := some (18, false) },
    { op := .bin 25 .geq (.s 23) (.s 24), gd := some (18, false) },
    { op := .pick 26 (.s 18) (.c (.bool true)) (.s 25) }] none false [0, 1, 5, 26] [])
  (.cond (.s 26) (.seq (.region [{ op := .mov 4 (.c (.bool false)) false }] none false [4] [])
  .ret) (.skip [0, 1, 5] []))))
  (.region [{ op := .mov 10 (.s 5) false },
    { op := .bin 11 .add (.s 10) (.c (.int .i64 1)) },
    { op := .mov 5 (.s 11) false }] none false [0, 1, 5] [])))
def a50 : AFun := { n := 2, N := 30, res := [.tmp 4], body :=
  (.seq (.region [{ op := .mov 4 (.c (.bool false)) false }] none false [0, 1] [])
  (.seq (.seq (.region [{ op := .mov 5 (.c (.int .i64 0)) false }] none false [0, 1, 5] [])
  (.block 0 (.loop a50_l0)))
  (.seq (.region [{ op := .mov 27 (.s 1) true },
    { op := .len 28 false (.s 27) },
    { op := .bin 29 .leq (.s 28) (.c (.int .i64 32)) },
    { op := .mov 4 (.s 29) false }] none false [4] [])
  .ret))) }

-- tactician/traits.Reduce
def a51 : AFun := { n := 3, N := 20, res := [.tmp 6, .tmp 7], body :=
  (.seq (.region [{ op := .box 4 false (.s 1) },
    { op := .nils 6 2 52 },
    { op := .mov 7 (.c (.int .i64 0)) false }] none false [0, 2, 4] [4])
  (.seq (.seq (.region [{ op := .mov 9 (.s 0) false },
    { op := .load 10 3 true (.s 4) },
    { op := .mov 11 (.s 2) false },
    { op := .bslice 12 1 27 [(.s 11)] },
    { op := .call (some 13) 30 [(.s 9), (.s 10), (.s 12)] },
    { op := .mov 8 (.s 13) false }] none false [2, 4, 8] [4])
  (.seq (.region [{ op := .mov 14 (.s 8) false },
    { op := .bin 15 .neq (.s 14) (.c (.int .i64 0)) }] none false [2, 4, 8, 15] [4])
  (.cond (.s 15) (.seq (.region [{ op := .mov 16 (.s 8) false },
    { op := .nils 6 2 52 },
    { op := .mov 7 (.s 16) false }] none false [6, 7] [])
  .ret) (.skip [2, 4] [4]))))
  (.seq (.region [{ op := .load 17 3 true (.s 4) },
    { op := .mov 18 (.s 2) true },
    { op := .call (some 19) 80 [(.s 17), (.s 18)] },
    { op := .mov 6 (.s 19) true },
    { op := .mov 7 (.c (.int .i64 0)) false }] none false [6, 7] [])
  .ret))) }

-- tactician/traits.Implies
def a52 : AFun := { n := 4, N := 27, res := [.tmp 8, .tmp 9], body :=
  (.seq (.region [{ op := .box 5 false (.s 1) },
    { op := .mov 8 (.c (.bool false)) false },
    { op := .mov 9 (.c (.int .i64 0)) false }] none false [0, 2, 3, 5] [5])
  (.seq (.seq (.region [{ op := .mov 11 (.s 0) false },
    { op := .load 12 3 true (.s 5) },
    { op := .mov 13 (.s 2) false },
    { op := .mov 14 (.s 3) false },
    { op := .bslice 15 1 27 [(.s 13), (.s 14)] },
    { op := .call (some 16) 30 [(.s 11), (.s 12), (.s 15)] },
    { op := .mov 10 (.s 16) false }] none false [2, 3, 5, 10] [5])
  (.seq (.region [{ op := .mov 17 (.s 10) false },
    { op := .bin 18 .neq (.s 17) (.c (.int .i64 0)) }] none false [2, 3, 5, 10, 18] [5])
  (.cond (.s 18) (.seq (.region [{ op := .mov 19 (.s 10) false },
    { op := .mov 8 (.c (.bool false)) false },
    { op := .mov 9 (.s 19) false }] none false [8, 9] [])
  .ret) (.skip [2, 3, 5] [5]))))
  (.seq (.region [{ op := .load 20 3 true (.s 5), blk := some 5 },
    { op := .mov 21 (.s 2) true },
    { op := .call (some 22) 80 [(.s 20), (.s 21)] },
    { op := .load 23 3 true (.s 5), blk := some 5 },
    { op := .mov 24 (.s 3) true },
    { op := .call (some 25) 80 [(.s 23), (.s 24)] },
    { op := .call (some 26) 81 [(.s 22), (.s 25)] },
    { op := .mov 8 (.s 26) false },
    { op := .mov 9 (.c (.int .i64 0)) false }] (some [0, 0, 3, 0, 0, 31, 63, 127, 255]) true [8, 9] [])
  .ret))) }

-- tactician/traits.Full
def a53 : AFun := { n := 2, N := 18, res := [.tmp 4, .tmp 5], body :=
  (.seq (.region [{ op := .nils 4 2 52 },
    { op := .mov 5 (.c (.int .i64 0)) false }] none false [0, 1] [])
  (.seq (.seq (.region [{ op := .mov 7 (.s 0) false },
    { op := .build 8 [.slice 1 [], .slice 2 [], .slice 1 []] [] },
    { op := .mov 9 (.s 1) false },
    { op := .bslice 10 1 27 [(.s 9)] },
    { op := .call (some 11) 30 [(.s 7), (.s 8), (.s 10)] },
    { op := .mov 6 (.s 11) false }] none false [0, 1, 6] [])
  (.seq (.region [{ op := .mov 12 (.s 6) false },
    { op := .bin 13 .neq (.s 12) (.c (.int .i64 0)) }] none false [0, 1, 6, 13] [])
  (.cond (.s 13) (.seq (.region [{ op := .mov 14 (.s 6) false },
    { op := .nils 4 2 52 },
    { op := .mov 5 (.s 14) false }] none false [4, 5] [])
  .ret) (.skip [0, 1] []))))
  (.seq (.region [{ op := .mov 15 (.s 0) false },
    { op := .mov 16 (.s 1) true },
    { op := .call (some 17) 82 [(.s 15), (.s 16)] },
    { op := .mov 4 (.s 17) true },
    { op := .mov 5 (.c (.int .i64 0)) false }] none false [4, 5] [])
  .ret))) }

-- tactician/traits.isList
def a54 : AFun := { n := 1, N := 10, res := [.tmp 2], body :=
  (.seq (.region [{ op := .mov 2 (.c (.bool false)) false }] none false [0] [])
  (.seq (.region [{ op := .mov 3 (.s 0) false },
    { op := .len 4 false (.s 3) },
    { op := .bin 5 .leq (.s 4) (.c (.int .i64 32)) },
    { op := .mov 6 (.s 5) false },
    { op := .mov 7 (.s 0) true, gd := some (6, true) },
    { op := .call (some 8) 83 [(.s 7), (.c (.clos (.func 84) [] []))], gd := some (6, true) },
    { op := .pick 9 (.s 6) (.s 8) (.c (.bool false)) },
    { op := .mov 2 (.s 9) false }] none false [2] [])
  .ret)) }

-- tactician/traits.Written
def a55_l0 : ACode := (.seq (.region [{ op := .bin 10 .lss (.s 9) (.s 8) }] none false [3, 7, 8, 9, 10] [])
  (.seq (.cond (.s 10) (.skip [3, 7, 8, 9] []) (.exit 0 [3] []))
  (.seq (.block 1 (.seq (.region [{ op := .iaddrS 11 2 (.s 7) (.s 9) },
    { op := .load 12 2 true (.s 11) },
    { op := .alloc 5 false [.int .i64 0, .bool false] [] },
    { op := .store (.s 5) (.s 12) 2 false }] none false [3, 5, 7, 8, 9] [5])
  (.seq (.region [{ op := .faddr 13 0 (.s 5) },
    { op := .load 14 1 false (.s 13) },
    { op := .call (some 15) 85 [(.s 14)] },
    { op := .mov 6 (.s 15) false }] none false [3, 5, 6, 7, 8, 9] [5])
  (.seq (.seq (.region [{ op := .faddr 16 1 (.s 5) },
    { op := .load 17 1 false (.s 16) }] none false [3, 6, 7, 8, 9, 17] [])
  (.cond (.s 17) (.region [{ op := .mov 18 (.s 6) false },
    { op := .bin 19 .add (.s 18) (.c (.str ⟨#[45]⟩)) },
    { op := .mov 6 (.s 19) false }] none false [3, 6, 7, 8, 9] []) (.skip [3, 6, 7, 8, 9] [])))
  (.region [{ op := .mov 20 (.s 3) true },
    { op := .mov 21 (.s 6) false },
    { op := .bslice 22 1 9 [(.s 21)] },
    { op := .append 23 1 9 16 (.s 20) (.s 22) },
    { op := .mov 3 (.s 23) true }] none false [3, 7, 8, 9] [])))))
  (.region [{ op := .bin 24 .add (.s 9) (.c (.int .i64 1)) },
    { op := .mov 9 (.s 24) false }] none false [3, 7, 8, 9] []))))
def a55 : AFun := { n := 1, N := 29, res := [.tmp 2], body :=
  (.seq (.region [{ op := .mov 2 (.c (.str ⟨#[]⟩)) false }] none false [0] [])
  (.seq (.region [{ op := .nils 3 1 9 }] none false [0, 3] [])
  (.seq (.seq (.region [{ op := .mov 7 (.s 0) true },
    { op := .len 8 false (.s 7) },
    { op := .mov 9 (.c (.int .i64 0)) false }] none false [3, 7, 8, 9] [])
  (.block 0 (.loop a55_l0)))
  (.seq (.region [{ op := .mov 25 (.s 3) true },
    { op := .call (some 26) 86 [(.s 25), (.c (.str ⟨#[32]⟩))] },
    { op := .bin 27 .add (.c (.str ⟨#[91]⟩)) (.s 26) },
    { op := .bin 28 .add (.s 27) (.c (.str ⟨#[93]⟩)) },
    { op := .mov 2 (.s 28) false }] none false [2] [])
  .ret)))) }

-- tactician/tacticianref01.Digits
def a56 : AFun := { n := 1, N := 36, res := [.tmp 2], body :=
  (.seq (.region [{ op := .mov 2 (.c (.str ⟨#[]⟩)) false }] none false [0] [])
  (.seq (.seq (.region [{ op := .mov 5 (.s 0) false },
    { op := .bin 6 .lss (.s 5) (.c (.int .i64 0)) }] none false [0, 6] [])
  (.cond (.s 6) (.seq (.region [{ op := .mov 7 (.s 0) false },
    { op := .bin 8 .rem (.s 7) (.c (.int .i64 10)) },
    { op := .bin 9 .sub (.c (.int .i64 48)) (.s 8) },
    { op := .convI 10 .u8 (.s 9) },
    { op := .bslice 11 1 5 [(.s 10)] },
    { op := .convB 12 (.s 11) },
    { op := .mov 3 (.s 12) false }] none false [0, 3] [])
  (.seq (.seq (.region [{ op := .mov 13 (.s 0) false },
    { op := .bin 14 .gtr (.s 13) (.c (.int .i64 (-10))) }] none false [0, 3, 14] [])
  (.cond (.s 14) (.seq (.region [{ op := .mov 15 (.s 3) false },
    { op := .bin 16 .add (.c (.str ⟨#[45]⟩)) (.s 15) },
    { op := .mov 2 (.s 16) false }] none false [2] [])
  .ret) (.skip [0, 3] [])))
  (.seq (.region [{ op := .mov 17 (.s 0) false },
    { op := .bin 18 .quo (.s 17) (.c (.int .i64 10)) },
    { op := .call (some 19) 56 [(.s 18)] },
    { op := .mov 20 (.s 3) false },
    { op := .bin 21 .add (.s 19) (.s 20) },
    { op := .mov 2 (.s 21) false }] none false [2] [])
  .ret))) (.skip [0] [])))
  (.seq (.region [{ op := .mov 22 (.s 0) false },
    { op := .bin 23 .rem (.s 22) (.c (.int .i64 10)) },
    { op := .bin 24 .add (.c (.int .i64 48)) (.s 23) },
    { op := .convI 25 .u8 (.s 24) },
    { op := .bslice 26 1 5 [(.s 25)] },
    { op := .convB 27 (.s 26) },
    { op := .mov 4 (.s 27) false }] none false [0, 4] [])
  (.seq (.seq (.region [{ op := .mov 28 (.s 0) false },
    { op := .bin 29 .lss (.s 28) (.c (.int .i64 10)) }] none false [0, 4, 29] [])
  (.cond (.s 29) (.seq (.region [{ op := .mov 30 (.s 4) false },
    { op := .mov 2 (.s 30) false }] none false [2] [])
  .ret) (.skip [0, 4] [])))
  (.seq (.region [{ op := .mov 31 (.s 0) false },
    { op := .bin 32 .quo (.s 31) (.c (.int .i64 10)) },
    { op := .call (some 33) 56 [(.s 32)] },
    { op := .mov 34 (.s 4) false },
    { op := .bin 35 .add (.s 33) (.s 34) },
    { op := .mov 2 (.s 35) false }] none false [2] [])
  .ret))))) }

-- tactician/traits.Read
def a57_l0 : ACode := (.seq (.region [{ op := .bin 35 .lss (.s 34) (.s 33) }] none false [0, 4, 32, 33, 34, 35] [])
  (.seq (.cond (.s 35) (.skip [0, 4, 32, 33, 34] []) (.exit 0 [0, 4] []))
  (.seq (.block 1 (.seq (.region [{ op := .iaddrS 36 1 (.s 32) (.s 34) },
    { op := .load 37 1 false (.s 36) },
    { op := .mov 6 (.s 37) false }] none false [0, 4, 6, 32, 33, 34] [])
  (.seq (.region [{ op := .mov 39 (.s 6) false },
    { op := .call (some 40) 88 [(.s 39), (.c (.str ⟨#[45]⟩))] },
    { op := .mov 38 (.s 40) false },
    { op := .extract 41 (.s 38) 0 },
    { op := .extract 42 (.s 38) 1 },
    { op := .mov 7 (.s 41) false },
    { op := .mov 8 (.s 42) false }] none false [0, 4, 7, 8, 32, 33, 34] [])
  (.seq (.region [{ op := .mov 44 (.s 7) false },
    { op := .call (some 45) 89 [(.s 44)] },
    { op := .mov 43 (.s 45) false },
    { op := .extract 46 (.s 43) 0 },
    { op := .extract 47 (.s 43) 1 },
    { op := .mov 9 (.s 46) false },
    { op := .mov 10 (.s 47) false }] none false [0, 4, 8, 9, 10, 32, 33, 34] [])
  (.seq (.seq (.region [{ op := .mov 48 (.s 10) false },
    { op := .eqnil 49 true 2 (.s 48) },
    { op := .mov 50 (.s 49) false },
    { op := .mov 51 (.s 9) false, gd := some (50, false) },
    { op := .bin 52 .lss (.s 51) (.c (.int .i64 0)), gd := some (50, false) },
    { op := .pick 53 (.s 50) (.c (.bool true)) (.s 52) },
    { op := .mov 54 (.s 53) false },
    { op := .mov 55 (.s 9) false, gd := some (54, false) },
    { op := .bin 56 .gtr (.s 55) (.c (.int .i64 2147483647)), gd := some (54, false) },
    { op := .pick 57 (.s 54) (.c (.bool true)) (.s 56) }] none false [0, 4, 8, 9, 32, 33, 34, 57] [])
  (.cond (.s 57) (.seq (.region [{ op := .nils 2 2 52 },
    { op := .mov 3 (.c (.bool false)) false }] none false [2, 3] [])
  .ret) (.skip [0, 4, 8, 9, 32, 33, 34] [])))
  (.region [{ op := .mov 58 (.s 4) true },
    { op := .mov 59 (.s 9) false },
    { op := .mov 60 (.s 8) false },
    { op := .build 61 [.int .i64 0, .bool false] [(0, 1, (.s 59)), (1, 1, (.s 60))] },
    { op := .bslice 62 2 52 [(.s 61)] },
    { op := .append 63 2 52 16 (.s 58) (.s 62) },
    { op := .mov 4 (.s 63) true }] none false [0, 4, 32, 33, 34] []))))))
  (.region [{ op := .bin 64 .add (.s 34) (.c (.int .i64 1)) },
    { op := .mov 34 (.s 64) false }] none false [0, 4, 32, 33, 34] []))))
def a57 : AFun := { n := 1, N := 74, res := [.tmp 2, .tmp 3], body :=
  (.seq (.region [{ op := .nils 2 2 52 },
    { op := .mov 3 (.c (.bool false)) false }] none false [0] [])
  (.seq (.seq (.region [{ op := .mov 11 (.s 0) false },
    { op := .len 12 true (.s 11) },
    { op := .bin 13 .lss (.s 12) (.c (.int .i64 2)) },
    { op := .mov 14 (.s 13) false },
    { op := .mov 15 (.s 0) false, gd := some (14, false) },
    { op := .idxS 16 (.s 15) (.c (.int .i64 0)), gd := some (14, false) },
    { op := .bin 17 .neq (.s 16) (.c (.int .u8 91)), gd := some (14, false) },
    { op := .pick 18 (.s 14) (.c (.bool true)) (.s 17) },
    { op := .mov 19 (.s 18) false },
    { op := .mov 20 (.s 0) false, gd := some (19, false) },
    { op := .mov 21 (.s 0) false, gd := some (19, false) },
    { op := .len 22 true (.s 21), gd := some (19, false) },
    { op := .bin 23 .sub (.s 22) (.c (.int .i64 1)), gd := some (19, false) },
    { op := .idxS 24 (.s 20) (.s 23), gd := some (19, false) },
    { op := .bin 25 .neq (.s 24) (.c (.int .u8 93)), gd := some (19, false) },
    { op := .pick 26 (.s 19) (.c (.bool true)) (.s 25) }] none false [0, 26] [])
  (.cond (.s 26) (.seq (.region [{ op := .nils 2 2 52 },
    { op := .mov 3 (.c (.bool false)) false }] none false [2, 3] [])
  .ret) (.skip [0] [])))
  (.seq (.region [{ op := .nils 4 2 52 }] none false [0, 4] [])
  (.seq (.seq (.region [{ op := .mov 27 (.s 0) false },
    { op := .mov 28 (.s 0) false },
    { op := .len 29 true (.s 28) },
    { op := .bin 30 .sub (.s 29) (.c (.int .i64 1)) },
    { op := .sliceS 31 (.s 27) (some (.c (.int .i64 1))) (some (.s 30)) },
    { op := .call (some 32) 87 [(.s 31)] },
    { op := .len 33 false (.s 32) },
    { op := .mov 34 (.c (.int .i64 0)) false }] none false [0, 4, 32, 33, 34] [])
  (.block 0 (.loop a57_l0)))
  (.seq (.region [{ op := .mov 65 (.s 4) false },
    { op := .mov 66 (.s 4) false },
    { op := .call (some 67) 54 [(.s 66)] },
    { op := .mov 68 (.s 67) false },
    { op := .mov 69 (.s 4) true, gd := some (68, true) },
    { op := .call (some 70) 55 [(.s 69)], gd := some (68, true) },
    { op := .mov 71 (.s 0) false, gd := some (68, true) },
    { op := .bin 72 .eql (.s 70) (.s 71), gd := some (68, true) },
    { op := .pick 73 (.s 68) (.s 72) (.c (.bool false)) },
    { op := .mov 2 (.s 65) true },
    { op := .mov 3 (.s 73) false }] none false [2, 3] [])
  .ret))))) }

-- tactician/tacticianref01.Number
def a58_l0 : ACode := (.seq (.seq (.region [{ op := .mov 14 (.s 5) false },
    { op := .mov 15 (.s 0) false },
    { op := .len 16 true (.s 15) },
    { op := .bin 17 .lss (.s 14) (.s 16) }] none false [0, 4, 5, 17] [])
  (.cond (.s 17) (.skip [0, 4, 5] []) (.exit 0 [0, 4] [])))
  (.seq (.block 1 (.seq (.region [{ op := .mov 20 (.s 0) false },
    { op := .mov 21 (.s 5) false },
    { op := .idxS 22 (.s 20) (.s 21) },
    { op := .bin 23 .geq (.s 22) (.c (.int .u8 48)) },
    { op := .mov 24 (.s 23) false },
    { op := .mov 25 (.s 0) false, gd := some (24, true) },
    { op := .mov 26 (.s 5) false, gd := some (24, true) },
    { op := .idxS 27 (.s 25) (.s 26), gd := some (24, true) },
    { op := .bin 28 .leq (.s 27) (.c (.int .u8 57)), gd := some (24, true) },
    { op := .pick 29 (.s 24) (.s 28) (.c (.bool false)) }] none false [0, 4, 5, 29] [])
  (.cond (.s 29) (.region [{ op := .mov 30 (.s 4) false },
    { op := .bin 31 .mul (.s 30) (.c (.int .i64 10)) },
    { op := .mov 32 (.s 0) false },
    { op := .mov 33 (.s 5) false },
    { op := .idxS 34 (.s 32) (.s 33) },
    { op := .bin 35 .sub (.s 34) (.c (.int .u8 48)) },
    { op := .convI 36 .i64 (.s 35) },
    { op := .bin 37 .sub (.s 31) (.s 36) },
    { op := .mov 4 (.s 37) false }] none false [0, 4, 5] []) (.skip [0, 4, 5] []))))
  (.region [{ op := .mov 18 (.s 5) false },
    { op := .bin 19 .add (.s 18) (.c (.int .i64 1)) },
    { op := .mov 5 (.s 19) false }] none false [0, 4, 5] [])))
def a58 : AFun := { n := 1, N := 54, res := [.tmp 2, .tmp 3], body :=
  (.seq (.region [{ op := .mov 2 (.c (.int .i64 0)) false },
    { op := .mov 3 (.c (.bool false)) false }] none false [0] [])
  (.seq (.seq (.region [{ op := .mov 6 (.s 0) false },
    { op := .len 7 true (.s 6) },
    { op := .bin 8 .eql (.s 7) (.c (.int .i64 0)) },
    { op := .mov 9 (.s 8) false },
    { op := .mov 10 (.s 0) false, gd := some (9, false) },
    { op := .len 11 true (.s 10), gd := some (9, false) },
    { op := .bin 12 .gtr (.s 11) (.c (.int .i64 20)), gd := some (9, false) },
    { op := .pick 13 (.s 9) (.c (.bool true)) (.s 12) }] none false [0, 13] [])
  (.cond (.s 13) (.seq (.region [{ op := .mov 2 (.c (.int .i64 0)) false },
    { op := .mov 3 (.c (.bool false)) false }] none false [2, 3] [])
  .ret) (.skip [0] [])))
  (.seq (.region [{ op := .mov 4 (.c (.int .i64 0)) false }] none false [0, 4] [])
  (.seq (.seq (.region [{ op := .mov 5 (.c (.int .i64 0)) false }] none false [0, 4, 5] [])
  (.block 0 (.loop a58_l0)))
  (.seq (.seq (.region [{ op := .mov 38 (.s 4) false },
    { op := .call (some 39) 56 [(.s 38)] },
    { op := .mov 40 (.s 0) false },
    { op := .bin 41 .eql (.s 39) (.s 40) }] none false [0, 4, 41] [])
  (.cond (.s 41) (.seq (.region [{ op := .mov 42 (.s 4) false },
    { op := .mov 2 (.s 42) false },
    { op := .mov 3 (.c (.bool true)) false }] none false [2, 3] [])
  .ret) (.skip [0, 4] [])))
  (.seq (.seq (.region [{ op := .mov 43 (.s 4) false },
    { op := .bin 44 .neq (.s 43) (.c (.int .i64 (-9223372036854775808))) },
    { op := .mov 45 (.s 44) false },
    { op := .mov 46 (.s 4) false, gd := some (45, true) },
    { op := .un 47 .neg (.s 46), gd := some (45, true) },
    { op := .call (some 48) 56 [(.s 47)], gd := some (45, true) },
    { op := .mov 49 (.s 0) false, gd := some (45, true) },
    { op := .bin 50 .eql (.s 48) (.s 49), gd := some (45, true) },
    { op := .pick 51 (.s 45) (.s 50) (.c (.bool false)) }] none false [4, 51] [])
  (.cond (.s 51) (.seq (.region [{ op := .mov 52 (.s 4) false },
    { op := .un 53 .neg (.s 52) },
    { op := .mov 2 (.s 53) false },
    { op := .mov 3 (.c (.bool true)) false }] none false [2, 3] [])
  .ret) (.skip [] [])))
  (.seq (.region [{ op := .mov 2 (.c (.int .i64 0)) false },
    { op := .mov 3 (.c (.bool false)) false }] none false [2, 3] [])
  .ret))))))) }

-- tactician/tacticianref18.Begins
def a59 : AFun := { n := 2, N := 12, res := [.tmp 4], body :=
  (.seq (.region [{ op := .mov 4 (.c (.bool false)) false }] none false [0, 1] [])
  (.seq (.region [{ op := .mov 5 (.s 0) false },
    { op := .mov 6 (.s 1) true },
    { op := .call (some 7) 90 [(.s 5), (.s 6)] },
    { op := .len 8 false (.s 7) },
    { op := .mov 9 (.s 0) true },
    { op := .len 10 false (.s 9) },
    { op := .bin 11 .eql (.s 8) (.s 10) },
    { op := .mov 4 (.s 11) false }] none false [4] [])
  .ret)) }

-- tactician/tacticianref01.TameAs
def a60_l0 : ACode := (.seq (.seq (.region [{ op := .mov 33 (.s 6) false },
    { op := .faddr 34 2 (.s 2) },
    { op := .load 35 1 false (.s 34) },
    { op := .len 36 true (.s 35) },
    { op := .bin 37 .lss (.s 33) (.s 36) },
    { op := .mov 38 (.s 37) false },
    { op := .mov 39 (.s 6) false, gd := some (38, true) },
    { op := .bin 40 .lss (.s 39) (.c (.int .i64 3)), gd := some (38, true) },
    { op := .pick 41 (.s 38) (.s 40) (.c (.bool false)) }] none false [2, 4, 5, 6, 41] [2, 4])
  (.cond (.s 41) (.skip [2, 4, 5, 6] [2, 4]) (.exit 1 [4, 5] [4])))
  (.seq (.block 2 (.region [{ op := .mov 44 (.s 5) false },
    { op := .faddr 45 2 (.s 2) },
    { op := .load 46 1 false (.s 45), blk := some 2 },
    { op := .mov 47 (.s 6) false },
    { op := .idxS 48 (.s 46) (.s 47) },
    { op := .bin 49 .rem (.s 48) (.c (.int .u8 3)) },
    { op := .faddr 50 2 (.s 2) },
    { op := .load 51 1 false (.s 50), blk := some 2 },
    { op := .mov 52 (.s 6) false },
    { op := .idxS 53 (.s 51) (.s 52) },
    { op := .bin 54 .rem (.s 53) (.c (.int .u8 3)) },
    { op := .bin 55 .add (.s 54) (.c (.int .u8 1)) },
    { op := .sliceS 56 (.c (.str ⟨#[97, 98, 39]⟩)) (some (.s 49)) (some (.s 55)) },
    { op := .bin 57 .add (.s 44) (.s 56) },
    { op := .mov 5 (.s 57) false }] (some [0, 0, 2, 0, 14, 30, 0, 64, 0, 448, 960, 1984, 4094, 8191, 16383]) true [2, 4, 5, 6] [2, 4]))
  (.region [{ op := .mov 42 (.s 6) false },
    { op := .bin 43 .add (.s 42) (.c (.int .i64 1)) },
    { op := .mov 6 (.s 43) false }] none false [2, 4, 5, 6] [2, 4])))
def a60 : AFun := { n := 2, N := 75, res := [.cell 4 3 true], body :=
  (.seq (.region [{ op := .box 2 false (.s 0) },
    { op := .box 3 false (.s 1) },
    { op := .alloc 4 false [.int .i64 0, .int .i64 0, .str ⟨#[]⟩] [] }] none false [2, 3, 4] [2, 3, 4])
  (.seq (.seq (.region [{ op := .faddr 7 1 (.s 3) },
    { op := .load 8 1 false (.s 7) },
    { op := .mov 9 (.s 8) false },
    { op := .faddr 10 0 (.s 2), gd := some (9, true) },
    { op := .load 11 1 false (.s 10), gd := some (9, true) },
    { op := .bin 12 .eql (.s 11) (.c (.int .i64 0)), gd := some (9, true) },
    { op := .mov 13 (.s 12) false, gd := some (9, true) },
    { op := .faddr 14 1 (.s 2), gd := some (13, false) },
    { op := .load 15 1 false (.s 14), gd := some (13, false) },
    { op := .convI 16 .u64 (.s 15), gd := some (13, false) },
    { op := .bin 17 .rem (.s 16) (.c (.int .u64 5)), gd := some (13, false) },
    { op := .bin 18 .eql (.s 17) (.c (.int .u64 4)), gd := some (13, false) },
    { op := .pick 19 (.s 13) (.c (.bool true)) (.s 18), gd := some (9, true) },
    { op := .pick 20 (.s 9) (.s 19) (.c (.bool false)) }] none false [2, 3, 4, 20] [2, 3, 4])
  (.cond (.s 20) (.seq (.region [{ op := .call (some 21) 91 [] },
    { op := .store (.s 4) (.s 21) 3 false }] none false [4] [4])
  .ret) (.skip [2, 3, 4] [2, 3, 4])))
  (.seq (.seq (.region [{ op := .faddr 22 0 (.s 3) },
    { op := .load 23 1 false (.s 22) }] none false [2, 4, 23] [2, 4])
  (.block 0 (.seq (.region [{ op := .bin 25 .eql (.s 23) (.c (.int .i64 2)) },
    { op := .mov 24 (.s 25) false }] none false [2, 4, 23, 24] [2, 4])
  (.cond (.s 24) (.seq (.region [{ op := .faddr 26 1 (.s 2) },
    { op := .load 27 1 false (.s 26) },
    { op := .bin 28 .rem (.s 27) (.c (.int .i64 2)) },
    { op := .bin 29 .neq (.s 28) (.c (.int .i64 0)) },
    { op := .call (some 30) 92 [(.s 29)] },
    { op := .store (.s 4) (.s 30) 3 false }] none false [4] [4])
  .ret) (.seq (.region [{ op := .bin 32 .eql (.s 23) (.c (.int .i64 3)) },
    { op := .mov 31 (.s 32) false }] none false [2, 4, 31] [2, 4])
  (.cond (.s 31) (.seq (.region [{ op := .mov 5 (.c (.str ⟨#[]⟩)) false }] none false [2, 4, 5] [2, 4])
  (.seq (.seq (.region [{ op := .mov 6 (.c (.int .i64 0)) false }] none false [2, 4, 5, 6] [2, 4])
  (.block 1 (.loop a60_l0)))
  (.seq (.region [{ op := .mov 58 (.s 5) false },
    { op := .call (some 59) 93 [(.s 58)] },
    { op := .store (.s 4) (.s 59) 3 false }] none false [4] [4])
  .ret))) (.skip [2, 4] [2, 4])))))))
  (.seq (.seq (.region [{ op := .faddr 60 1 (.s 2) },
    { op := .load 61 1 false (.s 60) },
    { op := .convI 62 .u64 (.s 61) },
    { op := .bin 63 .rem (.s 62) (.c (.int .u64 16)) },
    { op := .bin 64 .eql (.s 63) (.c (.int .u64 15)) }] none false [2, 4, 64] [2, 4])
  (.cond (.s 64) (.seq (.region [{ op := .faddr 65 1 (.s 2) },
    { op := .load 66 1 false (.s 65) },
    { op := .call (some 67) 94 [(.s 66)] },
    { op := .store (.s 4) (.s 67) 3 false }] none false [4] [4])
  .ret) (.skip [2, 4] [2, 4])))
  (.seq (.region [{ op := .faddr 68 1 (.s 2) },
    { op := .load 69 1 false (.s 68) },
    { op := .convI 70 .u64 (.s 69) },
    { op := .bin 71 .rem (.s 70) (.c (.int .u64 7)) },
    { op := .convI 72 .i64 (.s 71) },
    { op := .bin 73 .sub (.s 72) (.c (.int .i64 2)) },
    { op := .call (some 74) 94 [(.s 73)] },
    { op := .store (.s 4) (.s 74) 3 false }] none false [4] [4])
  .ret))))) }

-- tactician/traits.known
def a61 : AFun := { n := 2, N := 42, res := [.tmp 4], body :=
  (.seq (.region [{ op := .box 3 false (.s 1) },
    { op := .mov 4 (.c (.bool false)) false }] none false [0, 3] [3])
  (.seq (.region [{ op := .mov 6 (.s 0) false },
    { op := .call (some 7) 95 [(.s 6)] },
    { op := .alloc 5 false [.nilfn] [] },
    { op := .store (.s 5) (.s 7) 1 false }] none false [3, 5] [3, 5])
  (.seq (.freeze 5 (.region [{ op := .faddr 8 0 (.s 3) },
    { op := .load 9 1 false (.s 8) },
    { op := .len 10 false (.s 9) },
    { op := .bin 11 .leq (.s 10) (.c (.int .i64 16)) },
    { op := .mov 12 (.s 11) false },
    { op := .faddr 13 1 (.s 3), gd := some (12, true) },
    { op := .load 14 1 false (.s 13), gd := some (12, true) },
    { op := .len 15 false (.s 14), gd := some (12, true) },
    { op := .bin 16 .leq (.s 15) (.c (.int .i64 16)), gd := some (12, true) },
    { op := .pick 17 (.s 12) (.s 16) (.c (.bool false)) },
    { op := .mov 18 (.s 17) false },
    { op := .faddr 19 2 (.s 3), gd := some (18, true) },
    { op := .load 20 1 false (.s 19), gd := some (18, true) },
    { op := .len 21 false (.s 20), gd := some (18, true) },
    { op := .bin 22 .leq (.s 21) (.c (.int .i64 16)), gd := some (18, true) },
    { op := .pick 23 (.s 18) (.s 22) (.c (.bool false)) },
    { op := .mov 24 (.s 23) false },
    { op := .faddr 25 0 (.s 3), gd := some (24, true) },
    { op := .load 26 1 false (.s 25), gd := some (24, true) },
    { op := .load 27 1 false (.s 5), gd := some (24, true) },
    { op := .call (some 28) 32 [(.s 26), (.s 27)], gd := some (24, true) },
    { op := .pick 29 (.s 24) (.s 28) (.c (.bool false)) },
    { op := .mov 30 (.s 29) false },
    { op := .faddr 31 1 (.s 3), gd := some (30, true) },
    { op := .load 32 1 false (.s 31), gd := some (30, true) },
    { op := .mkfn 33 (.func 96) [] [(.s 5)], gd := some (30, true) },
    { op := .call (some 34) 36 [(.s 32), (.s 33)], gd := some (30, true) },
    { op := .pick 35 (.s 30) (.s 34) (.c (.bool false)) },
    { op := .mov 36 (.s 35) false },
    { op := .faddr 37 2 (.s 3), gd := some (36, true) },
    { op := .load 38 1 false (.s 37), gd := some (36, true) },
    { op := .mkfn 39 (.func 97) [] [(.s 5)], gd := some (36, true) },
    { op := .call (some 40) 39 [(.s 38), (.s 39)], gd := some (36, true) },
    { op := .pick 41 (.s 36) (.s 40) (.c (.bool false)) },
    { op := .mov 4 (.s 41) false }] none false [4] []))
  .ret))) }

-- tactician/traits.all[[]tactician/api.Key]
def a62 : AFun := { n := 2, N := 9, res := [.tmp 4], body :=
  (.seq (.region [{ op := .box 3 false (.s 1) },
    { op := .mov 4 (.c (.bool false)) false }] none false [0, 3] [3])
  (.seq (.freeze 3 (.region [{ op := .mov 5 (.s 0) true },
    { op := .mkfn 6 (.func 99) [] [(.s 3)] },
    { op := .call (some 7) 98 [(.s 5), (.s 6)] },
    { op := .un 8 .not (.s 7) },
    { op := .mov 4 (.s 8) false }] none false [4] []))
  .ret)) }

-- tactician/traits.right$1
def a63 : AFun := { n := 2, N := 7, res := [.tmp 3], body :=
  (.seq (.region [{ op := .mov 3 (.c (.bool false)) false }] none false [0, 1] [])
  (.seq (.region [{ op := .load 4 1 false (.s 1) },
    { op := .mov 5 (.s 0) true },
    { op := .call (some 6) 64 [(.s 4), (.s 5)] },
    { op := .mov 3 (.s 6) false }] none false [3] [])
  .ret)) }

-- tactician/traits.areKeys
def a64 : AFun := { n := 2, N := 16, res := [.tmp 4], body :=
  (.seq (.region [{ op := .mov 4 (.c (.bool false)) false }] none false [0, 1] [])
  (.seq (.region [{ op := .mov 6 (.s 0) false },
    { op := .call (some 7) 95 [(.s 6)] },
    { op := .alloc 5 false [.nilfn] [] },
    { op := .store (.s 5) (.s 7) 1 false }] none false [1, 5] [5])
  (.seq (.freeze 5 (.region [{ op := .mov 8 (.s 1) false },
    { op := .len 9 false (.s 8) },
    { op := .bin 10 .leq (.s 9) (.c (.int .i64 32)) },
    { op := .mov 11 (.s 10) false },
    { op := .mov 12 (.s 1) true, gd := some (11, true) },
    { op := .mkfn 13 (.func 100) [] [(.s 5)], gd := some (11, true) },
    { op := .call (some 14) 83 [(.s 12), (.s 13)], gd := some (11, true) },
    { op := .pick 15 (.s 11) (.s 14) (.c (.bool false)) },
    { op := .mov 4 (.s 15) false }] none false [4] []))
  .ret))) }

-- tactician/traits.areRows$1
def a65 : AFun := { n := 2, N := 12, res := [.tmp 3], body :=
  (.seq (.region [{ op := .mov 3 (.c (.bool false)) false }] none false [0, 1] [])
  (.seq (.region [{ op := .mov 4 (.s 0) false },
    { op := .len 5 false (.s 4) },
    { op := .load 6 1 false (.s 1) },
    { op := .bin 7 .eql (.s 5) (.s 6) },
    { op := .mov 8 (.s 7) false },
    { op := .mov 9 (.s 0) true, gd := some (8, true) },
    { op := .call (some 10) 66 [(.s 9), (.c (.clos (.func 67) [] []))], gd := some (8, true) },
    { op := .pick 11 (.s 8) (.s 10) (.c (.bool false)) },
    { op := .mov 3 (.s 11) false }] none false [3] [])
  .ret)) }

-- tactician/traits.all[tactician/api.Value]
def a66 : AFun := { n := 2, N := 9, res := [.tmp 4], body :=
  (.seq (.region [{ op := .box 3 false (.s 1) },
    { op := .mov 4 (.c (.bool false)) false }] none false [0, 3] [3])
  (.seq (.freeze 3 (.region [{ op := .mov 5 (.s 0) true },
    { op := .mkfn 6 (.func 102) [] [(.s 3)] },
    { op := .call (some 7) 101 [(.s 5), (.s 6)] },
    { op := .un 8 .not (.s 7) },
    { op := .mov 4 (.s 8) false }] none false [4] []))
  .ret)) }

-- tactician/value.Is
def a67 : AFun := { n := 1, N := 51, res := [.tmp 2], body :=
  (.seq (.region [{ op := .box 1 false (.s 0) },
    { op := .mov 2 (.c (.bool false)) false }] none false [1] [1])
  (.seq (.seq (.region [{ op := .faddr 3 0 (.s 1) },
    { op := .load 4 1 false (.s 3) }] none false [1, 4] [1])
  (.block 0 (.seq (.region [{ op := .bin 6 .eql (.s 4) (.c (.int .i64 0)) },
    { op := .mov 5 (.s 6) false }] none false [1, 4, 5] [1])
  (.cond (.s 5) (.seq (.region [{ op := .faddr 7 1 (.s 1) },
    { op := .load 8 1 false (.s 7) },
    { op := .bin 9 .eql (.s 8) (.c (.int .i64 0)) },
    { op := .mov 10 (.s 9) false },
    { op := .faddr 11 2 (.s 1), gd := some (10, true) },
    { op := .load 12 1 false (.s 11), gd := some (10, true) },
    { op := .bin 13 .eql (.s 12) (.c (.str ⟨#[]⟩)), gd := some (10, true) },
    { op := .pick 14 (.s 10) (.s 13) (.c (.bool false)) },
    { op := .mov 2 (.s 14) false }] none false [2] [])
  .ret) (.seq (.region [{ op := .bin 16 .eql (.s 4) (.c (.int .i64 1)) },
    { op := .mov 15 (.s 16) false }] none false [1, 4, 15] [1])
  (.cond (.s 15) (.seq (.region [{ op := .faddr 17 2 (.s 1) },
    { op := .load 18 1 false (.s 17) },
    { op := .bin 19 .eql (.s 18) (.c (.str ⟨#[]⟩)) },
    { op := .mov 2 (.s 19) false }] none false [2] [])
  .ret) (.seq (.region [{ op := .bin 21 .eql (.s 4) (.c (.int .i64 2)) },
    { op := .mov 20 (.s 21) false }] none false [1, 4, 20] [1])
  (.cond (.s 20) (.seq (.region [{ op := .faddr 22 2 (.s 1) },
    { op := .load 23 1 false (.s 22) },
    { op := .bin 24 .eql (.s 23) (.c (.str ⟨#[]⟩)) },
    { op := .mov 25 (.s 24) false },
    { op := .faddr 26 1 (.s 1), gd := some (25, true) },
    { op := .load 27 1 false (.s 26), gd := some (25, true) },
    { op := .bin 28 .eql (.s 27) (.c (.int .i64 0)), gd := some (25, true) },
    { op := .mov 29 (.s 28) false, gd := some (25, true) },
    { op := .faddr 30 1 (.s 1), gd := some (29, false) },
    { op := .load 31 1 false (.s 30), gd := some (29, false) },
    { op := .bin 32 .eql (.s 31) (.c (.int .i64 1)), gd := some (29, false) },
    { op := .pick 33 (.s 29) (.c (.bool true)) (.s 32), gd := some (25, true) },
    { op := .pick 34 (.s 25) (.s 33) (.c (.bool false)) },
    { op := .mov 2 (.s 34) false }] none false [2] [])
  .ret) (.seq (.region [{ op := .bin 36 .eql (.s 4) (.c (.int .i64 3)) },
    { op := .mov 35 (.s 36) false }] none false [1, 35] [1])
  (.cond (.s 35) (.seq (.region [{ op := .faddr 37 1 (.s 1) },
    { op := .load 38 1 false (.s 37) },
    { op := .bin 39 .eql (.s 38) (.c (.int .i64 0)) },
    { op := .mov 40 (.s 39) false },
    { op := .faddr 41 2 (.s 1), gd := some (40, true) },
    { op := .load 42 1 false (.s 41), gd := some (40, true) },
    { op := .len 43 true (.s 42), gd := some (40, true) },
    { op := .bin 44 .leq (.s 43) (.c (.int .i64 200)), gd := some (40, true) },
    { op := .pick 45 (.s 40) (.s 44) (.c (.bool false)) },
    { op := .mov 46 (.s 45) false },
    { op := .faddr 47 2 (.s 1), gd := some (46, true) },
    { op := .load 48 1 false (.s 47), gd := some (46, true) },
    { op := .call (some 49) 103 [(.s 48)], gd := some (46, true) },
    { op := .pick 50 (.s 46) (.s 49) (.c (.bool false)) },
    { op := .mov 2 (.s 50) false }] none false [2] [])
  .ret) (.skip [] [])))))))))))
  (.seq (.region [{ op := .mov 2 (.c (.bool false)) false }] none false [2] [])
  .ret))) }

-- slices.ContainsFunc[[]int,int]
def a68 : AFun := { n := 2, N := 9, res := [.tmp 4], body :=
  (.seq (.region [{ op := .mov 4 (.c (.bool false)) false }] none false [0, 1] [])
  (.seq (.region [{ op := .mov 5 (.s 0) true },
    { op := .mov 6 (.s 1) false },
    { op := .call (some 7) 104 [(.s 5), (.s 6)] },
    { op := .bin 8 .geq (.s 7) (.c (.int .i64 0)) },
    { op := .mov 4 (.s 8) false }] none false [4] [])
  .ret)) }

-- tactician/traits.all[int]$1
def a69 : AFun := { n := 2, N := 8, res := [.tmp 3], body :=
  (.seq (.region [{ op := .mov 3 (.c (.bool false)) false }] none false [0, 1] [])
  (.seq (.region [{ op := .load 4 1 false (.s 1) },
    { op := .mov 5 (.s 0) false },
    { op := .callv (some 6) (.s 4) [(.s 5)] },
    { op := .un 7 .not (.s 6) },
    { op := .mov 3 (.s 7) false }] none false [3] [])
  .ret)) }

-- slices.ContainsFunc[[][]tactician/api.Value,[]tactician/api.Value]
def a70 : AFun := { n := 2, N := 9, res := [.tmp 4], body :=
  (.seq (.region [{ op := .mov 4 (.c (.bool false)) false }] none false [0, 1] [])
  (.seq (.region [{ op := .mov 5 (.s 0) true },
    { op := .mov 6 (.s 1) false },
    { op := .call (some 7) 105 [(.s 5), (.s 6)] },
    { op := .bin 8 .geq (.s 7) (.c (.int .i64 0)) },
    { op := .mov 4 (.s 8) false }] none false [4] [])
  .ret)) }

-- tactician/traits.all[[]tactician/api.Value]$1
def a71 : AFun := { n := 2, N := 8, res := [.tmp 3], body :=
  (.seq (.region [{ op := .mov 3 (.c (.bool false)) false }] none false [0, 1] [])
  (.seq (.region [{ op := .load 4 1 false (.s 1) },
    { op := .mov 5 (.s 0) true },
    { op := .callv (some 6) (.s 4) [(.s 5)] },
    { op := .un 7 .not (.s 6) },
    { op := .mov 3 (.s 7) false }] none false [3] [])
  .ret)) }

-- slices.ContainsFunc[[][2]int,[2]int]
def a72 : AFun := { n := 2, N := 9, res := [.tmp 4], body :=
  (.seq (.region [{ op := .mov 4 (.c (.bool false)) false }] none false [0, 1] [])
  (.seq (.region [{ op := .mov 5 (.s 0) true },
    { op := .mov 6 (.s 1) false },
    { op := .call (some 7) 106 [(.s 5), (.s 6)] },
    { op := .bin 8 .geq (.s 7) (.c (.int .i64 0)) },
    { op := .mov 4 (.s 8) false }] none false [4] [])
  .ret)) }

-- tactician/traits.all[[2]int]$1
def a73 : AFun := { n := 2, N := 8, res := [.tmp 3], body :=
  (.seq (.region [{ op := .box 2 false (.s 0) },
    { op := .mov 3 (.c (.bool false)) false }] none false [1, 2] [2])
  (.seq (.region [{ op := .load 4 1 false (.s 1) },
    { op := .load 5 2 true (.s 2) },
    { op := .callv (some 6) (.s 4) [(.s 5)] },
    { op := .un 7 .not (.s 6) },
    { op := .mov 3 (.s 7) false }] none false [3] [])
  .ret)) }

-- slices.ContainsFunc[[][]int,[]int]
def a74 : AFun := { n := 2, N := 9, res := [.tmp 4], body :=
  (.seq (.region [{ op := .mov 4 (.c (.bool false)) false }] none false [0, 1] [])
  (.seq (.region [{ op := .mov 5 (.s 0) true },
    { op := .mov 6 (.s 1) false },
    { op := .call (some 7) 107 [(.s 5), (.s 6)] },
    { op := .bin 8 .geq (.s 7) (.c (.int .i64 0)) },
    { op := .mov 4 (.s 8) false }] none false [4] [])
  .ret)) }

-- tactician/traits.all[[]int]$1
def a75 : AFun := { n := 2, N := 8, res := [.tmp 3], body :=
  (.seq (.region [{ op := .mov 3 (.c (.bool false)) false }] none false [0, 1] [])
  (.seq (.region [{ op := .load 4 1 false (.s 1) },
    { op := .mov 5 (.s 0) true },
    { op := .callv (some 6) (.s 4) [(.s 5)] },
    { op := .un 7 .not (.s 6) },
    { op := .mov 3 (.s 7) false }] none false [3] [])
  .ret)) }

-- tactician/value.Written
def a76 : AFun := { n := 1, N := 25, res := [.tmp 2], body :=
  (.seq (.region [{ op := .box 1 false (.s 0) },
    { op := .mov 2 (.c (.str ⟨#[]⟩)) false }] none false [1] [1])
  (.seq (.region [{ op := .build 4 [.str ⟨#[]⟩, .str ⟨#[]⟩] [(0, 1, (.c (.str ⟨#[102, 97, 108, 115, 101]⟩))), (1, 1, (.c (.str ⟨#[116, 114, 117, 101]⟩)))] },
    { op := .alloc 3 false [.str ⟨#[]⟩, .str ⟨#[]⟩] [] },
    { op := .store (.s 3) (.s 4) 2 false }] none false [1, 3] [1, 3])
  (.seq (.seq (.region [{ op := .faddr 5 0 (.s 1) },
    { op := .load 6 1 false (.s 5) }] none false [1, 3, 6] [1, 3])
  (.block 0 (.seq (.region [{ op := .bin 8 .eql (.s 6) (.c (.int .i64 1)) },
    { op := .mov 7 (.s 8) false }] none false [1, 3, 6, 7] [1, 3])
  (.cond (.s 7) (.seq (.region [{ op := .faddr 9 1 (.s 1) },
    { op := .load 10 1 false (.s 9) },
    { op := .call (some 11) 108 [(.s 10), (.c (.int .i64 10))] },
    { op := .mov 2 (.s 11) false }] none false [2] [])
  .ret) (.seq (.region [{ op := .bin 13 .eql (.s 6) (.c (.int .i64 2)) },
    { op := .mov 12 (.s 13) false }] none false [1, 3, 6, 12] [1, 3])
  (.cond (.s 12) (.seq (.region [{ op := .faddr 14 1 (.s 1) },
    { op := .load 15 1 false (.s 14) },
    { op := .iaddrA 16 2 1 (.s 3) (.s 15) },
    { op := .load 17 1 false (.s 16) },
    { op := .mov 2 (.s 17) false }] none false [2] [])
  .ret) (.seq (.region [{ op := .bin 19 .eql (.s 6) (.c (.int .i64 3)) },
    { op := .mov 18 (.s 19) false }] none false [1, 18] [1])
  (.cond (.s 18) (.seq (.region [{ op := .faddr 20 2 (.s 1) },
    { op := .load 21 1 false (.s 20) },
    { op := .call (some 22) 109 [(.s 21), (.c (.str ⟨#[39]⟩)), (.c (.str ⟨#[39, 39]⟩))] },
    { op := .bin 23 .add (.c (.str ⟨#[39]⟩)) (.s 22) },
    { op := .bin 24 .add (.s 23) (.c (.str ⟨#[39]⟩)) },
    { op := .mov 2 (.s 24) false }] none false [2] [])
  .ret) (.skip [] [])))))))))
  (.seq (.region [{ op := .mov 2 (.c (.str ⟨#[110, 117, 108, 108]⟩)) false }] none false [2] [])
  .ret)))) }

-- tactician/value.Order
def a77 : AFun := { n := 2, N := 22, res := [.tmp 4], body :=
  (.seq (.region [{ op := .box 2 false (.s 0) },
    { op := .box 3 false (.s 1) },
    { op := .mov 4 (.c (.int .i64 0)) false }] none false [2, 3] [2, 3])
  (.seq (.region [{ op := .faddr 5 0 (.s 2) },
    { op := .load 6 1 false (.s 5), blk := some 2 },
    { op := .faddr 7 0 (.s 3) },
    { op := .load 8 1 false (.s 7), blk := some 3 },
    { op := .call (some 9) 111 [(.s 6), (.s 8)] },
    { op := .faddr 10 1 (.s 2) },
    { op := .load 11 1 false (.s 10), blk := some 2 },
    { op := .faddr 12 1 (.s 3) },
    { op := .load 13 1 false (.s 12), blk := some 3 },
    { op := .call (some 14) 112 [(.s 11), (.s 13)] },
    { op := .faddr 15 2 (.s 2) },
    { op := .load 16 1 false (.s 15), blk := some 2 },
    { op := .faddr 17 2 (.s 3) },
    { op := .load 18 1 false (.s 17), blk := some 3 },
    { op := .call (some 19) 113 [(.s 16), (.s 18)] },
    { op := .bslice 20 1 3 [(.s 9), (.s 14), (.s 19)] },
    { op := .call (some 21) 110 [(.s 20)] },
    { op := .mov 4 (.s 21) false }] (some [0, 1, 0, 4, 15, 0, 32, 0, 128, 511, 0, 1024, 0, 4096, 16383, 32767, 65535, 131071]) true [4] [])
  .ret)) }

-- tactician/tacticianref01.AllRight
def a78_l0 : ACode := (.seq (.seq (.region [{ op := .mov 4 (.s 3) false },
    { op := .mov 5 (.s 0) false },
    { op := .len 6 false (.s 5) },
    { op := .bin 7 .lss (.s 4) (.s 6) }] none false [0, 3, 7] [])
  (.cond (.s 7) (.skip [0, 3] []) (.exit 0 [] [])))
  (.seq (.block 1 (.seq (.region [{ op := .mov 10 (.s 0) false },
    { op := .mov 11 (.s 3) false },
    { op := .iaddrS 12 3 (.s 10) (.s 11) },
    { op := .load 13 3 true (.s 12) },
    { op := .call (some 14) 114 [(.s 13)] },
    { op := .un 15 .not (.s 14) }] none false [0, 3, 15] [])
  (.cond (.s 15) (.seq (.region [{ op := .mov 2 (.c (.bool false)) false }] none false [2] [])
  .ret) (.skip [0, 3] []))))
  (.region [{ op := .mov 8 (.s 3) false },
    { op := .bin 9 .add (.s 8) (.c (.int .i64 1)) },
    { op := .mov 3 (.s 9) false }] none false [0, 3] [])))
def a78 : AFun := { n := 1, N := 16, res := [.tmp 2], body :=
  (.seq (.region [{ op := .mov 2 (.c (.bool false)) false }] none false [0] [])
  (.seq (.seq (.region [{ op := .mov 3 (.c (.int .i64 0)) false }] none false [0, 3] [])
  (.block 0 (.loop a78_l0)))
  (.seq (.region [{ op := .mov 2 (.c (.bool true)) false }] none false [2] [])
  .ret))) }

-- tactician/tacticianref18.within
def a79_l0 : ACode := (.seq (.seq (.region [{ op := .mov 6 (.s 5) false },
    { op := .mov 7 (.s 1) false },
    { op := .len 8 false (.s 7) },
    { op := .bin 9 .lss (.s 6) (.s 8) }] none false [0, 1, 5, 9] [])
  (.cond (.s 9) (.skip [0, 1, 5] []) (.exit 0 [] [])))
  (.seq (.block 1 (.seq (.region [{ op := .mov 12 (.s 1) false },
    { op := .mov 13 (.s 5) false },
    { op := .iaddrS 14 1 (.s 12) (.s 13) },
    { op := .load 15 1 false (.s 14) },
    { op := .bin 16 .lss (.s 15) (.c (.int .i64 0)) },
    { op := .mov 17 (.s 16) false },
    { op := .mov 18 (.s 1) false, gd := some (17, false) },
    { op := .mov 19 (.s 5) false, gd := some (17, false) },
    { op := .iaddrS 20 1 (.s 18) (.s 19), gd := some (17, false) },
    { op := .load 21 1 false (.s 20), gd := some (17, false) },
    { op := .mov 22 (.s 0) false, gd := some (17, false) },
    { op := .bin 23 .geq (.s 21) (.s 22), gd := some (17, false) },
    { op := .pick 24 (.s 17) (.c (.bool true)) (.s 23) }] none false [0, 1, 5, 24] [])
  (.cond (.s 24) (.seq (.region [{ op := .mov 4 (.c (.bool false)) false }] none false [4] [])
  .ret) (.skip [0, 1, 5] []))))
  (.region [{ op := .mov 10 (.s 5) false },
    { op := .bin 11 .add (.s 10) (.c (.int .i64 1)) },
    { op := .mov 5 (.s 11) false }] none false [0, 1, 5] [])))
def a79 : AFun := { n := 2, N := 25, res := [.tmp 4], body :=
  (.seq (.region [{ op := .mov 4 (.c (.bool false)) false }] none false [0, 1] [])
  (.seq (.seq (.region [{ op := .mov 5 (.c (.int .i64 0)) false }] none false [0, 1, 5] [])
  (.block 0 (.loop a79_l0)))
  (.seq (.region [{ op := .mov 4 (.c (.bool true)) false }] none false [4] [])
  .ret))) }

-- tactician/traits.reduced
def a80_l0 : ACode := (.seq (.region [{ op := .bin 14 .lss (.s 13) (.s 12) }] none false [5, 6, 11, 12, 13, 14] [])
  (.seq (.cond (.s 14) (.skip [5, 6, 11, 12, 13] []) (.exit 0 [6] []))
  (.seq (.block 1 (.seq (.region [{ op := .iaddrS 15 2 (.s 11) (.s 13) },
    { op := .load 16 2 true (.s 15) },
    { op := .alloc 8 false [.int .i64 0, .bool false] [] },
    { op := .store (.s 8) (.s 16) 2 false }] none false [5, 6, 8, 11, 12, 13] [8])
  (.seq (.seq (.region [{ op := .mov 17 (.s 5) false },
    { op := .faddr 18 0 (.s 8) },
    { op := .load 19 1 false (.s 18) },
    { op := .call (some 20) 116 [(.s 17), (.s 19)] },
    { op := .un 21 .not (.s 20) }] none false [5, 6, 8, 11, 12, 13, 21] [8])
  (.cond (.s 21) (.region [{ op := .mov 22 (.s 6) true },
    { op := .mov 23 (.s 5) false },
    { op := .faddr 24 0 (.s 8) },
    { op := .load 25 1 false (.s 24), blk := some 8 },
    { op := .nilchk 26 (.s 23) },
    { op := .faddr 27 0 (.s 26) },
    { op := .iaddrA 28 16 1 (.s 27) (.s 25) },
    { op := .load 29 1 false (.s 28) },
    { op := .faddr 30 1 (.s 8) },
    { op := .load 31 1 false (.s 30), blk := some 8 },
    { op := .build 32 [.int .i64 0, .bool false] [(0, 1, (.s 29)), (1, 1, (.s 31))] },
    { op := .bslice 33 2 52 [(.s 32)] },
    { op := .append 34 2 52 16 (.s 22) (.s 33) },
    { op := .mov 6 (.s 34) true }] (some [0, 0, 0, 4, 2, 18, 62, 126, 0, 256, 1022, 2046, 4095, 8191]) true [5, 6, 8, 11, 12, 13] [8]) (.skip [5, 6, 8, 11, 12, 13] [8])))
  (.region [{ op := .mov 35 (.s 5) false },
    { op := .mov 36 (.s 5) false },
    { op := .faddr 37 0 (.s 8) },
    { op := .load 38 1 false (.s 37), blk := some 8 },
    { op := .nilchk 39 (.s 36) },
    { op := .faddr 40 0 (.s 39) },
    { op := .iaddrA 41 16 1 (.s 40) (.s 38) },
    { op := .load 42 1 false (.s 41) },
    { op := .nilchk 43 (.s 35) },
    { op := .faddr 44 17 (.s 43) },
    { op := .iaddrA 45 16 1 (.s 44) (.s 42) },
    { op := .store (.s 45) (.c (.bool true)) 1 false }] (some [0, 0, 0, 4, 2, 18, 62, 126, 1, 257, 1023, 2047]) true [5, 6, 11, 12, 13] []))))
  (.region [{ op := .bin 46 .add (.s 13) (.c (.int .i64 1)) },
    { op := .mov 13 (.s 46) false }] none false [5, 6, 11, 12, 13] []))))
def a80 : AFun := { n := 2, N := 48, res := [.tmp 4], body :=
  (.seq (.region [{ op := .box 2 false (.s 0) },
    { op := .nils 4 2 52 }] none false [1, 2] [2])
  (.seq (.region [{ op := .load 9 3 true (.s 2) },
    { op := .call (some 10) 115 [(.s 9)] },
    { op := .mov 5 (.s 10) false }] none false [1, 5] [])
  (.seq (.region [{ op := .nils 6 2 52 }] none false [1, 5, 6] [])
  (.seq (.seq (.region [{ op := .mov 11 (.s 1) true },
    { op := .len 12 false (.s 11) },
    { op := .mov 13 (.c (.int .i64 0)) false }] none false [5, 6, 11, 12, 13] [])
  (.block 0 (.loop a80_l0)))
  (.seq (.region [{ op := .mov 47 (.s 6) true },
    { op := .mov 4 (.s 47) true }] none false [4] [])
  .ret))))) }

-- tactician/traits.Begins
def a81 : AFun := { n := 2, N := 11, res := [.tmp 4], body :=
  (.seq (.region [{ op := .mov 4 (.c (.bool false)) false }] none false [0, 1] [])
  (.seq (.region [{ op := .mov 5 (.s 0) true },
    { op := .mov 6 (.s 1) false },
    { op := .call (some 7) 117 [(.s 5), (.s 6)] },
    { op := .mov 8 (.s 1) true },
    { op := .len 9 false (.s 8) },
    { op := .bin 10 .eql (.s 7) (.s 9) },
    { op := .mov 4 (.s 10) false }] none false [4] [])
  .ret)) }

-- tactician/traits.Filled
def a82_l0 : ACode := (.seq (.region [{ op := .bin 11 .lss (.s 10) (.s 9) }] none false [1, 5, 9, 10, 11] [])
  (.seq (.cond (.s 11) (.skip [1, 5, 9, 10] []) (.exit 0 [5] []))
  (.seq (.block 1 (.seq (.region [{ op := .mov 12 (.s 10) false },
    { op := .alloc 6 false [.int .i64 0] [] },
    { op := .store (.s 6) (.s 12) 1 false }] none false [1, 5, 6, 9, 10] [6])
  (.seq (.freeze 6 (.region [{ op := .mov 13 (.s 1) false },
    { op := .mkfn 14 (.func 120) [] [(.s 6)] },
    { op := .call (some 15) 119 [(.s 13), (.s 14)] },
    { op := .un 16 .not (.s 15) }] none false [1, 5, 6, 9, 10, 16] [6]))
  (.cond (.s 16) (.region [{ op := .mov 17 (.s 5) true },
    { op := .load 18 1 false (.s 6) },
    { op := .build 19 [.int .i64 0, .bool false] [(0, 1, (.s 18))] },
    { op := .bslice 20 2 52 [(.s 19)] },
    { op := .append 21 2 52 16 (.s 17) (.s 20) },
    { op := .mov 5 (.s 21) true }] none false [1, 5, 9, 10] []) (.skip [1, 5, 9, 10] [])))))
  (.region [{ op := .bin 22 .add (.s 10) (.c (.int .i64 1)) },
    { op := .mov 10 (.s 22) false }] none false [1, 5, 9, 10] []))))
def a82 : AFun := { n := 2, N := 24, res := [.tmp 4], body :=
  (.seq (.region [{ op := .nils 4 2 52 }] none false [0, 1] [])
  (.seq (.region [{ op := .mov 7 (.s 1) false },
    { op := .call (some 8) 118 [(.s 7)] },
    { op := .mov 5 (.s 8) true }] none false [0, 1, 5] [])
  (.seq (.seq (.region [{ op := .mov 9 (.s 0) false },
    { op := .mov 10 (.c (.int .i64 0)) false }] none false [1, 5, 9, 10] [])
  (.block 0 (.loop a82_l0)))
  (.seq (.region [{ op := .mov 23 (.s 5) true },
    { op := .mov 4 (.s 23) true }] none false [4] [])
  .ret)))) }

-- tactician/traits.all[tactician/api.Key]
def a83 : AFun := { n := 2, N := 9, res := [.tmp 4], body :=
  (.seq (.region [{ op := .box 3 false (.s 1) },
    { op := .mov 4 (.c (.bool false)) false }] none false [0, 3] [3])
  (.seq (.freeze 3 (.region [{ op := .mov 5 (.s 0) true },
    { op := .mkfn 6 (.func 121) [] [(.s 3)] },
    { op := .call (some 7) 119 [(.s 5), (.s 6)] },
    { op := .un 8 .not (.s 7) },
    { op := .mov 4 (.s 8) false }] none false [4] []))
  .ret)) }

-- tactician/traits.isList$1
def a84 : AFun := { n := 1, N := 6, res := [.tmp 2], body :=
  (.seq (.region [{ op := .box 1 false (.s 0) },
    { op := .mov 2 (.c (.bool false)) false }] none false [1] [1])
  (.seq (.region [{ op := .faddr 3 0 (.s 1) },
    { op := .load 4 1 false (.s 3) },
    { op := .bin 5 .geq (.s 4) (.c (.int .i64 0)) },
    { op := .mov 2 (.s 5) false }] none false [2] [])
  .ret)) }

-- strings.CutSuffix
def a88 : AFun := { n := 2, N := 11, res := [.tmp 4, .tmp 5], body :=
  (.seq (.region [{ op := .mov 4 (.c (.str ⟨#[]⟩)) false },
    { op := .mov 5 (.c (.bool false)) false }] none false [0, 1] [])
  (.seq (.region [{ op := .mov 6 (.s 0) false },
    { op := .mov 7 (.s 1) false },
    { op := .call (some 8) 128 [(.s 6), (.s 7)] },
    { op := .extract 9 (.s 8) 0 },
    { op := .extract 10 (.s 8) 1 },
    { op := .mov 4 (.s 9) false },
    { op := .mov 5 (.s 10) false }] none false [4, 5] [])
  .ret)) }

-- tactician/tacticianref18.Common
def a90_l0 : ACode := (.seq (.seq (.region [{ op := .mov 7 (.s 6) false },
    { op := .mov 8 (.s 0) false },
    { op := .len 9 false (.s 8) },
    { op := .bin 10 .lss (.s 7) (.s 9) },
    { op := .mov 11 (.s 10) false },
    { op := .mov 12 (.s 6) false, gd := some (11, true) },
    { op := .mov 13 (.s 1) false, gd := some (11, true) },
    { op := .len 14 false (.s 13), gd := some (11, true) },
    { op := .bin 15 .lss (.s 12) (.s 14), gd := some (11, true) },
    { op := .pick 16 (.s 11) (.s 15) (.c (.bool false)) },
    { op := .mov 17 (.s 16) false },
    { op := .mov 18 (.s 0) false, gd := some (17, true) },
    { op := .mov 19 (.s 6) false, gd := some (17, true) },
    { op := .iaddrS 20 2 (.s 18) (.s 19), gd := some (17, true) },
    { op := .load 21 2 true (.s 20), gd := some (17, true), blk := some 99999 },
    { op := .mov 22 (.s 1) false, gd := some (17, true) },
    { op := .mov 23 (.s 6) false, gd := some (17, true) },
    { op := .iaddrS 24 2 (.s 22) (.s 23), gd := some (17, true) },
    { op := .load 25 2 true (.s 24), gd := some (17, true), blk := some 99999 },
    { op := .eqagg 26 false [0, 1] (.s 21) (.s 25), gd := some (17, true) },
    { op := .pick 27 (.s 17) (.s 26) (.c (.bool false)) }] (some [0, 0, 2, 7, 15, 31, 31, 95, 255, 511, 1023, 2047, 2047, 8191, 16383, 2047, 2047, 100351, 231423, 524287, 1048575]) true [0, 1, 5, 6, 27] [])
  (.cond (.s 27) (.skip [0, 1, 5, 6] []) (.exit 0 [5] [])))
  (.seq (.block 1 (.region [{ op := .mov 30 (.s 5) true },
    { op := .mov 31 (.s 0) false },
    { op := .mov 32 (.s 6) false },
    { op := .iaddrS 33 2 (.s 31) (.s 32) },
    { op := .load 34 2 true (.s 33) },
    { op := .bslice 35 2 52 [(.s 34)] },
    { op := .append 36 2 52 16 (.s 30) (.s 35) },
    { op := .mov 5 (.s 36) true }] none false [0, 1, 5, 6] []))
  (.region [{ op := .mov 28 (.s 6) false },
    { op := .bin 29 .add (.s 28) (.c (.int .i64 1)) },
    { op := .mov 6 (.s 29) false }] none false [0, 1, 5, 6] [])))
def a90 : AFun := { n := 2, N := 38, res := [.tmp 4], body :=
  (.seq (.region [{ op := .nils 4 2 52 }] none false [0, 1] [])
  (.seq (.region [{ op := .nils 5 2 52 }] none false [0, 1, 5] [])
  (.seq (.seq (.region [{ op := .mov 6 (.c (.int .i64 0)) false }] none false [0, 1, 5, 6] [])
  (.block 0 (.loop a90_l0)))
  (.seq (.region [{ op := .mov 37 (.s 5) true },
    { op := .mov 4 (.s 37) true }] none false [4] [])
  .ret)))) }

-- tactician/tacticianref01.Null
def a91 : AFun := { n := 0, N := 2, res := [.cell 0 3 true], body :=
  (.seq (.region [{ op := .alloc 0 false [.int .i64 0, .int .i64 0, .str ⟨#[]⟩] [] }] none false [0] [0])
  (.seq (.region [{ op := .build 1 [.int .i64 0, .int .i64 0, .str ⟨#[]⟩] [] },
    { op := .store (.s 0) (.s 1) 3 false }] none false [0] [0])
  .ret)) }

-- tactician/tacticianref01.Bool
def a92 : AFun := { n := 1, N := 6, res := [.cell 2 3 true], body :=
  (.seq (.region [{ op := .alloc 2 false [.int .i64 0, .int .i64 0, .str ⟨#[]⟩] [] }] none false [0, 2] [2])
  (.seq (.seq (.region [{ op := .mov 3 (.s 0) false }] none false [2, 3] [2])
  (.cond (.s 3) (.seq (.region [{ op := .build 4 [.int .i64 0, .int .i64 0, .str ⟨#[]⟩] [(0, 1, (.c (.int .i64 2))), (1, 1, (.c (.int .i64 1)))] },
    { op := .store (.s 2) (.s 4) 3 false }] none false [2] [2])
  .ret) (.skip [2] [2])))
  (.seq (.region [{ op := .build 5 [.int .i64 0, .int .i64 0, .str ⟨#[]⟩] [(0, 1, (.c (.int .i64 2)))] },
    { op := .store (.s 2) (.s 5) 3 false }] none false [2] [2])
  .ret))) }

-- tactician/tacticianref01.Text
def a93 : AFun := { n := 1, N := 5, res := [.cell 2 3 true], body :=
  (.seq (.region [{ op := .alloc 2 false [.int .i64 0, .int .i64 0, .str ⟨#[]⟩] [] }] none false [0, 2] [2])
  (.seq (.region [{ op := .mov 3 (.s 0) false },
    { op := .build 4 [.int .i64 0, .int .i64 0, .str ⟨#[]⟩] [(0, 1, (.c (.int .i64 3))), (2, 1, (.s 3))] },
    { op := .store (.s 2) (.s 4) 3 false }] none false [2] [2])
  .ret)) }

-- tactician/tacticianref01.Int
def a94 : AFun := { n := 1, N := 5, res := [.cell 2 3 true], body :=
  (.seq (.region [{ op := .alloc 2 false [.int .i64 0, .int .i64 0, .str ⟨#[]⟩] [] }] none false [0, 2] [2])
  (.seq (.region [{ op := .mov 3 (.s 0) false },
    { op := .build 4 [.int .i64 0, .int .i64 0, .str ⟨#[]⟩] [(0, 1, (.c (.int .i64 1))), (1, 1, (.s 3))] },
    { op := .store (.s 2) (.s 4) 3 false }] none false [2] [2])
  .ret)) }

-- tactician/traits.isCol
def a95 : AFun := { n := 1, N := 4, res := [.tmp 2], body :=
  (.seq (.region [{ op := .box 1 false (.s 0) },
    { op := .mov 2 (.c (.nilfn)) false }] none false [1] [1])
  (.seq (.freeze 1 (.region [{ op := .mkfn 3 (.func 131) [] [(.s 1)] },
    { op := .mov 2 (.s 3) false }] none false [2] []))
  .ret)) }

-- tactician/traits.known$1
def a96 : AFun := { n := 2, N := 14, res := [.tmp 3], body :=
  (.seq (.region [{ op := .box 2 false (.s 0) },
    { op := .mov 3 (.c (.bool false)) false }] none false [1, 2] [2])
  (.seq (.region [{ op := .load 4 1 false (.s 1) },
    { op := .iaddrA 5 2 1 (.s 2) (.c (.int .i64 0)) },
    { op := .load 6 1 false (.s 5) },
    { op := .callv (some 7) (.s 4) [(.s 6)] },
    { op := .mov 8 (.s 7) false },
    { op := .load 9 1 false (.s 1), gd := some (8, true) },
    { op := .iaddrA 10 2 1 (.s 2) (.c (.int .i64 1)), gd := some (8, true) },
    { op := .load 11 1 false (.s 10), gd := some (8, true) },
    { op := .callv (some 12) (.s 9) [(.s 11)], gd := some (8, true) },
    { op := .pick 13 (.s 8) (.s 12) (.c (.bool false)) },
    { op := .mov 3 (.s 13) false }] none false [3] [])
  .ret)) }

-- tactician/traits.known$2
def a97 : AFun := { n := 2, N := 12, res := [.tmp 3], body :=
  (.seq (.region [{ op := .mov 3 (.c (.bool false)) false }] none false [0, 1] [])
  (.seq (.region [{ op := .mov 4 (.s 0) false },
    { op := .len 5 false (.s 4) },
    { op := .bin 6 .leq (.s 5) (.c (.int .i64 16)) },
    { op := .mov 7 (.s 6) false },
    { op := .mov 8 (.s 0) true, gd := some (7, true) },
    { op := .load 9 1 false (.s 1), gd := some (7, true) },
    { op := .call (some 10) 32 [(.s 8), (.s 9)], gd := some (7, true) },
    { op := .pick 11 (.s 7) (.s 10) (.c (.bool false)) },
    { op := .mov 3 (.s 11) false }] none false [3] [])
  .ret)) }

-- slices.ContainsFunc[[][]tactician/api.Key,[]tactician/api.Key]
def a98 : AFun := { n := 2, N := 9, res := [.tmp 4], body :=
  (.seq (.region [{ op := .mov 4 (.c (.bool false)) false }] none false [0, 1] [])
  (.seq (.region [{ op := .mov 5 (.s 0) true },
    { op := .mov 6 (.s 1) false },
    { op := .call (some 7) 132 [(.s 5), (.s 6)] },
    { op := .bin 8 .geq (.s 7) (.c (.int .i64 0)) },
    { op := .mov 4 (.s 8) false }] none false [4] [])
  .ret)) }

-- tactician/traits.all[[]tactician/api.Key]$1
def a99 : AFun := { n := 2, N := 8, res := [.tmp 3], body :=
  (.seq (.region [{ op := .mov 3 (.c (.bool false)) false }] none false [0, 1] [])
  (.seq (.region [{ op := .load 4 1 false (.s 1) },
    { op := .mov 5 (.s 0) true },
    { op := .callv (some 6) (.s 4) [(.s 5)] },
    { op := .un 7 .not (.s 6) },
    { op := .mov 3 (.s 7) false }] none false [3] [])
  .ret)) }

-- tactician/traits.areKeys$1
def a100 : AFun := { n := 2, N := 8, res := [.tmp 3], body :=
  (.seq (.region [{ op := .box 2 false (.s 0) },
    { op := .mov 3 (.c (.bool false)) false }] none false [1, 2] [2])
  (.seq (.region [{ op := .load 4 1 false (.s 1) },
    { op := .faddr 5 0 (.s 2) },
    { op := .load 6 1 false (.s 5) },
    { op := .callv (some 7) (.s 4) [(.s 6)] },
    { op := .mov 3 (.s 7) false }] none false [3] [])
  .ret)) }

-- slices.ContainsFunc[[]tactician/api.Value,tactician/api.Value]
def a101 : AFun := { n := 2, N := 9, res := [.tmp 4], body :=
  (.seq (.region [{ op := .mov 4 (.c (.bool false)) false }] none false [0, 1] [])
  (.seq (.region [{ op := .mov 5 (.s 0) true },
    { op := .mov 6 (.s 1) false },
    { op := .call (some 7) 133 [(.s 5), (.s 6)] },
    { op := .bin 8 .geq (.s 7) (.c (.int .i64 0)) },
    { op := .mov 4 (.s 8) false }] none false [4] [])
  .ret)) }

-- tactician/traits.all[tactician/api.Value]$1
def a102 : AFun := { n := 2, N := 8, res := [.tmp 3], body :=
  (.seq (.region [{ op := .box 2 false (.s 0) },
    { op := .mov 3 (.c (.bool false)) false }] none false [1, 2] [2])
  (.seq (.region [{ op := .load 4 1 false (.s 1) },
    { op := .load 5 3 true (.s 2) },
    { op := .callv (some 6) (.s 4) [(.s 5)] },
    { op := .un 7 .not (.s 6) },
    { op := .mov 3 (.s 7) false }] none false [3] [])
  .ret)) }

-- tactician/value.printable
def a103_l0 : ACode := (.seq (.region [{ op := .bin 7 .lss (.s 6) (.s 5) }] none false [0, 5, 6, 7] [])
  (.seq (.cond (.s 7) (.skip [0, 5, 6] []) (.exit 0 [] []))
  (.seq (.block 1 (.seq (.region [{ op := .mov 8 (.s 6) false },
    { op := .mov 3 (.s 8) false }] none false [0, 3, 5, 6] [])
  (.seq (.region [{ op := .mov 9 (.s 0) false },
    { op := .mov 10 (.s 3) false },
    { op := .idxS 11 (.s 9) (.s 10) },
    { op := .bin 12 .lss (.s 11) (.c (.int .u8 32)) },
    { op := .mov 13 (.s 12) false },
    { op := .mov 14 (.s 0) false, gd := some (13, false) },
    { op := .mov 15 (.s 3) false, gd := some (13, false) },
    { op := .idxS 16 (.s 14) (.s 15), gd := some (13, false) },
    { op := .bin 17 .gtr (.s 16) (.c (.int .u8 126)), gd := some (13, false) },
    { op := .pick 18 (.s 13) (.c (.bool true)) (.s 17) }] none false [0, 5, 6, 18] [])
  (.cond (.s 18) (.seq (.region [{ op := .mov 2 (.c (.bool false)) false }] none false [2] [])
  .ret) (.skip [0, 5, 6] [])))))
  (.region [{ op := .bin 19 .add (.s 6) (.c (.int .i64 1)) },
    { op := .mov 6 (.s 19) false }] none false [0, 5, 6] []))))
def a103 : AFun := { n := 1, N := 20, res := [.tmp 2], body :=
  (.seq (.region [{ op := .mov 2 (.c (.bool false)) false }] none false [0] [])
  (.seq (.seq (.region [{ op := .mov 4 (.s 0) false },
    { op := .len 5 true (.s 4) },
    { op := .mov 6 (.c (.int .i64 0)) false }] none false [0, 5, 6] [])
  (.block 0 (.loop a103_l0)))
  (.seq (.region [{ op := .mov 2 (.c (.bool true)) false }] none false [2] [])
  .ret))) }

-- slices.IndexFunc[[]int,int]
def a104_l0 : ACode := (.seq (.region [{ op := .bin 9 .lss (.s 8) (.s 7) }] none false [0, 1, 7, 8, 9] [])
  (.seq (.cond (.s 9) (.skip [0, 1, 7, 8] []) (.exit 0 [] []))
  (.seq (.block 1 (.seq (.region [{ op := .mov 10 (.s 8) false },
    { op := .mov 5 (.s 10) false }] none false [0, 1, 5, 7, 8] [])
  (.seq (.region [{ op := .mov 11 (.s 1) false },
    { op := .mov 12 (.s 0) false },
    { op := .mov 13 (.s 5) false },
    { op := .iaddrS 14 1 (.s 12) (.s 13) },
    { op := .load 15 1 false (.s 14) },
    { op := .callv (some 16) (.s 11) [(.s 15)] }] none false [0, 1, 5, 7, 8, 16] [])
  (.cond (.s 16) (.seq (.region [{ op := .mov 17 (.s 5) false },
    { op := .mov 4 (.s 17) false }] none false [4] [])
  .ret) (.skip [0, 1, 7, 8] [])))))
  (.region [{ op := .bin 18 .add (.s 8) (.c (.int .i64 1)) },
    { op := .mov 8 (.s 18) false }] none false [0, 1, 7, 8] []))))
def a104 : AFun := { n := 2, N := 19, res := [.tmp 4], body :=
  (.seq (.region [{ op := .mov 4 (.c (.int .i64 0)) false }] none false [0, 1] [])
  (.seq (.seq (.region [{ op := .mov 6 (.s 0) false },
    { op := .len 7 false (.s 6) },
    { op := .mov 8 (.c (.int .i64 0)) false }] none false [0, 1, 7, 8] [])
  (.block 0 (.loop a104_l0)))
  (.seq (.region [{ op := .mov 4 (.c (.int .i64 (-1))) false }] none false [4] [])
  .ret))) }

-- slices.IndexFunc[[][]tactician/api.Value,[]tactician/api.Value]
def a105_l0 : ACode := (.seq (.region [{ op := .bin 9 .lss (.s 8) (.s 7) }] none false [0, 1, 7, 8, 9] [])
  (.seq (.cond (.s 9) (.skip [0, 1, 7, 8] []) (.exit 0 [] []))
  (.seq (.block 1 (.seq (.region [{ op := .mov 10 (.s 8) false },
    { op := .mov 5 (.s 10) false }] none false [0, 1, 5, 7, 8] [])
  (.seq (.region [{ op := .mov 11 (.s 1) false },
    { op := .mov 12 (.s 0) false },
    { op := .mov 13 (.s 5) false },
    { op := .iaddrS 14 1 (.s 12) (.s 13) },
    { op := .load 15 1 false (.s 14) },
    { op := .callv (some 16) (.s 11) [(.s 15)] }] none false [0, 1, 5, 7, 8, 16] [])
  (.cond (.s 16) (.seq (.region [{ op := .mov 17 (.s 5) false },
    { op := .mov 4 (.s 17) false }] none false [4] [])
  .ret) (.skip [0, 1, 7, 8] [])))))
  (.region [{ op := .bin 18 .add (.s 8) (.c (.int .i64 1)) },
    { op := .mov 8 (.s 18) false }] none false [0, 1, 7, 8] []))))
def a105 : AFun := { n := 2, N := 19, res := [.tmp 4], body :=
  (.seq (.region [{ op := .mov 4 (.c (.int .i64 0)) false }] none false [0, 1] [])
  (.seq (.seq (.region [{ op := .mov 6 (.s 0) false },
    { op := .len 7 false (.s 6) },
    { op := .mov 8 (.c (.int .i64 0)) false }] none false [0, 1, 7, 8] [])
  (.block 0 (.loop a105_l0)))
  (.seq (.region [{ op := .mov 4 (.c (.int .i64 (-1))) false }] none false [4] [])
  .ret))) }

-- slices.IndexFunc[[][2]int,[2]int]
def a106_l0 : ACode := (.seq (.region [{ op := .bin 9 .lss (.s 8) (.s 7) }] none false [0, 1, 7, 8, 9] [])
  (.seq (.cond (.s 9) (.skip [0, 1, 7, 8] []) (.exit 0 [] []))
  (.seq (.block 1 (.seq (.region [{ op := .mov 10 (.s 8) false },
    { op := .mov 5 (.s 10) false }] none false [0, 1, 5, 7, 8] [])
  (.seq (.region [{ op := .mov 11 (.s 1) false },
    { op := .mov 12 (.s 0) false },
    { op := .mov 13 (.s 5) false },
    { op := .iaddrS 14 2 (.s 12) (.s 13) },
    { op := .load 15 2 true (.s 14) },
    { op := .callv (some 16) (.s 11) [(.s 15)] }] none false [0, 1, 5, 7, 8, 16] [])
  (.cond (.s 16) (.seq (.region [{ op := .mov 17 (.s 5) false },
    { op := .mov 4 (.s 17) false }] none false [4] [])
  .ret) (.skip [0, 1, 7, 8] [])))))
  (.region [{ op := .bin 18 .add (.s 8) (.c (.int .i64 1)) },
    { op := .mov 8 (.s 18) false }] none false [0, 1, 7, 8] []))))
def a106 : AFun := { n := 2, N := 19, res := [.tmp 4], body :=
  (.seq (.region [{ op := .mov 4 (.c (.int .i64 0)) false }] none false [0, 1] [])
  (.seq (.seq (.region [{ op := .mov 6 (.s 0) false },
    { op := .len 7 false (.s 6) },
    { op := .mov 8 (.c (.int .i64 0)) false }] none false [0, 1, 7, 8] [])
  (.block 0 (.loop a106_l0)))
  (.seq (.region [{ op := .mov 4 (.c (.int .i64 (-1))) false }] none false [4] [])
  .ret))) }

-- slices.IndexFunc[[][]int,[]int]
def a107_l0 : ACode := (.seq (.region [{ op := .bin 9 .lss (.s 8) (.s 7) }] none false [0, 1, 7, 8, 9] [])
  (.seq (.cond (.s 9) (.skip [0, 1, 7, 8] []) (.exit 0 [] []))
  (.seq (.block 1 (.seq (.region [{ op := .mov 10 (.s 8) false },
    { op := .mov 5 (.s 10) false }] none false [0, 1, 5, 7, 8] [])
  (.seq (.region [{ op := .mov 11 (.s 1) false },
    { op := .mov 12 (.s 0) false },
    { op := .mov 13 (.s 5) false },
    { op := .iaddrS 14 1 (.s 12) (.s 13) },
    { op := .load 15 1 false (.s 14) },
    { op := .callv (some 16) (.s 11) [(.s 15)] }] none false [0, 1, 5, 7, 8, 16] [])
  (.cond (.s 16) (.seq (.region [{ op := .mov 17 (.s 5) false },
    { op := .mov 4 (.s 17) false }] none false [4] [])
  .ret) (.skip [0, 1, 7, 8] [])))))
  (.region [{ op := .bin 18 .add (.s 8) (.c (.int .i64 1)) },
    { op := .mov 8 (.s 18) false }] none false [0, 1, 7, 8] []))))
def a107 : AFun := { n := 2, N := 19, res := [.tmp 4], body :=
  (.seq (.region [{ op := .mov 4 (.c (.int .i64 0)) false }] none false [0, 1] [])
  (.seq (.seq (.region [{ op := .mov 6 (.s 0) false },
    { op := .len 7 false (.s 6) },
    { op := .mov 8 (.c (.int .i64 0)) false }] none false [0, 1, 7, 8] [])
  (.block 0 (.loop a107_l0)))
  (.seq (.region [{ op := .mov 4 (.c (.int .i64 (-1))) false }] none false [4] [])
  .ret))) }

-- cmp.Or[int]
def a110_l0 : ACode := (.seq (.region [{ op := .bin 9 .lss (.s 8) (.s 7) }] none false [3, 6, 7, 8, 9] [])
  (.seq (.cond (.s 9) (.skip [3, 6, 7, 8] []) (.exit 0 [3] []))
  (.seq (.block 1 (.seq (.region [{ op := .iaddrS 10 1 (.s 6) (.s 8) },
    { op := .load 11 1 false (.s 10) },
    { op := .mov 5 (.s 11) false }] none false [3, 5, 6, 7, 8] [])
  (.seq (.region [{ op := .mov 12 (.s 5) false },
    { op := .mov 13 (.s 3) false },
    { op := .bin 14 .neq (.s 12) (.s 13) }] none false [3, 5, 6, 7, 8, 14] [])
  (.cond (.s 14) (.seq (.region [{ op := .mov 15 (.s 5) false },
    { op := .mov 2 (.s 15) false }] none false [2] [])
  .ret) (.skip [3, 6, 7, 8] [])))))
  (.region [{ op := .bin 16 .add (.s 8) (.c (.int .i64 1)) },
    { op := .mov 8 (.s 16) false }] none false [3, 6, 7, 8] []))))
def a110 : AFun := { n := 1, N := 18, res := [.tmp 2], body :=
  (.seq (.region [{ op := .mov 2 (.c (.int .i64 0)) false }] none false [0] [])
  (.seq (.region [{ op := .mov 3 (.c (.int .i64 0)) false }] none false [0, 3] [])
  (.seq (.seq (.region [{ op := .mov 6 (.s 0) true },
    { op := .len 7 false (.s 6) },
    { op := .mov 8 (.c (.int .i64 0)) false }] none false [3, 6, 7, 8] [])
  (.block 0 (.loop a110_l0)))
  (.seq (.region [{ op := .mov 17 (.s 3) false },
    { op := .mov 2 (.s 17) false }] none false [2] [])
  .ret)))) }

-- cmp.Compare[tactician/api.Kind]
def a111 : AFun := { n := 2, N := 20, res := [.tmp 4], body :=
  (.seq (.region [{ op := .mov 4 (.c (.int .i64 0)) false }] none false [0, 1] [])
  (.seq (.region [{ op := .mov 7 (.s 0) false },
    { op := .call (some 8) 136 [(.s 7)] },
    { op := .mov 5 (.s 8) false }] none false [0, 1, 5] [])
  (.seq (.region [{ op := .mov 9 (.s 1) false },
    { op := .call (some 10) 136 [(.s 9)] },
    { op := .mov 6 (.s 10) false }] none false [0, 1, 5, 6] [])
  (.seq (.seq (.region [{ op := .mov 11 (.s 5) false }] none false [0, 1, 6, 11] [])
  (.cond (.s 11) (.seq (.seq (.region [{ op := .mov 12 (.s 6) false }] none false [12] [])
  (.cond (.s 12) (.seq (.region [{ op := .mov 4 (.c (.int .i64 0)) false }] none false [4] [])
  .ret) (.skip [] [])))
  (.seq (.region [{ op := .mov 4 (.c (.int .i64 (-1))) false }] none false [4] [])
  .ret)) (.skip [0, 1, 6] [])))
  (.seq (.seq (.region [{ op := .mov 13 (.s 6) false }] none false [0, 1, 13] [])
  (.cond (.s 13) (.seq (.region [{ op := .mov 4 (.c (.int .i64 1)) false }] none false [4] [])
  .ret) (.skip [0, 1] [])))
  (.seq (.seq (.region [{ op := .mov 14 (.s 0) false },
    { op := .mov 15 (.s 1) false },
    { op := .bin 16 .lss (.s 14) (.s 15) }] none false [0, 1, 16] [])
  (.cond (.s 16) (.seq (.region [{ op := .mov 4 (.c (.int .i64 (-1))) false }] none false [4] [])
  .ret) (.skip [0, 1] [])))
  (.seq (.seq (.region [{ op := .mov 17 (.s 0) false },
    { op := .mov 18 (.s 1) false },
    { op := .bin 19 .gtr (.s 17) (.s 18) }] none false [19] [])
  (.cond (.s 19) (.seq (.region [{ op := .mov 4 (.c (.int .i64 1)) false }] none false [4] [])
  .ret) (.skip [] [])))
  (.seq (.region [{ op := .mov 4 (.c (.int .i64 0)) false }] none false [4] [])
  .ret)))))))) }

-- cmp.Compare[int64]
def a112 : AFun := { n := 2, N := 20, res := [.tmp 4], body :=
  (.seq (.region [{ op := .mov 4 (.c (.int .i64 0)) false }] none false [0, 1] [])
  (.seq (.region [{ op := .mov 7 (.s 0) false },
    { op := .call (some 8) 137 [(.s 7)] },
    { op := .mov 5 (.s 8) false }] none false [0, 1, 5] [])
  (.seq (.region [{ op := .mov 9 (.s 1) false },
    { op := .call (some 10) 137 [(.s 9)] },
    { op := .mov 6 (.s 10) false }] none false [0, 1, 5, 6] [])
  (.seq (.seq (.region [{ op := .mov 11 (.s 5) false }] none false [0, 1, 6, 11] [])
  (.cond (.s 11) (.seq (.seq (.region [{ op := .mov 12 (.s 6) false }] none false [12] [])
  (.cond (.s 12) (.seq (.region [{ op := .mov 4 (.c (.int .i64 0)) false }] none false [4] [])
  .ret) (.skip [] [])))
  (.seq (.region [{ op := .mov 4 (.c (.int .i64 (-1))) false }] none false [4] [])
  .ret)) (.skip [0, 1, 6] [])))
  (.seq (.seq (.region [{ op := .mov 13 (.s 6) false }] none false [0, 1, 13] [])
  (.cond (.s 13) (.seq (.region [{ op := .mov 4 (.c (.int .i64 1)) false }] none false [4] [])
  .ret) (.skip [0, 1] [])))
  (.seq (.seq (.region [{ op := .mov 14 (.s 0) false },
    { op := .mov 15 (.s 1) false },
    { op := .bin 16 .lss (.s 14) (.s 15) }] none false [0, 1, 16] [])
  (.cond (.s 16) (.seq (.region [{ op := .mov 4 (.c (.int .i64 (-1))) false }] none false [4] [])
  .ret) (.skip [0, 1] [])))
  (.seq (.seq (.region [{ op := .mov 17 (.s 0) false },
    { op := .mov 18 (.s 1) false },
    { op := .bin 19 .gtr (.s 17) (.s 18) }] none false [19] [])
  (.cond (.s 19) (.seq (.region [{ op := .mov 4 (.c (.int .i64 1)) false }] none false [4] [])
  .ret) (.skip [] [])))
  (.seq (.region [{ op := .mov 4 (.c (.int .i64 0)) false }] none false [4] [])
  .ret)))))))) }

-- cmp.Compare[string]
def a113 : AFun := { n := 2, N := 20, res := [.tmp 4], body :=
  (.seq (.region [{ op := .mov 4 (.c (.int .i64 0)) false }] none false [0, 1] [])
  (.seq (.region [{ op := .mov 7 (.s 0) false },
    { op := .call (some 8) 138 [(.s 7)] },
    { op := .mov 5 (.s 8) false }] none false [0, 1, 5] [])
  (.seq (.region [{ op := .mov 9 (.s 1) false },
    { op := .call (some 10) 138 [(.s 9)] },
    { op := .mov 6 (.s 10) false }] none false [0, 1, 5, 6] [])
  (.seq (.seq (.region [{ op := .mov 11 (.s 5) false }] none false [0, 1, 6, 11] [])
  (.cond (.s 11) (.seq (.seq (.region [{ op := .mov 12 (.s 6) false }] none false [12] [])
  (.cond (.s 12) (.seq (.region [{ op := .mov 4 (.c (.int .i64 0)) false }] none false [4] [])
  .ret) (.skip [] [])))
  (.seq (.region [{ op := .mov 4 (.c (.int .i64 (-1))) false }] none false [4] [])
  .ret)) (.skip [0, 1, 6] [])))
  (.seq (.seq (.region [{ op := .mov 13 (.s 6) false }] none false [0, 1, 13] [])
  (.cond (.s 13) (.seq (.region [{ op := .mov 4 (.c (.int .i64 1)) false }] none false [4] [])
  .ret) (.skip [0, 1] [])))
  (.seq (.seq (.region [{ op := .mov 14 (.s 0) false },
    { op := .mov 15 (.s 1) false },
    { op := .bin 16 .lss (.s 14) (.s 15) }] none false [0, 1, 16] [])
  (.cond (.s 16) (.seq (.region [{ op := .mov 4 (.c (.int .i64 (-1))) false }] none false [4] [])
  .ret) (.skip [0, 1] [])))
  (.seq (.seq (.region [{ op := .mov 17 (.s 0) false },
    { op := .mov 18 (.s 1) false },
    { op := .bin 19 .gtr (.s 17) (.s 18) }] none false [19] [])
  (.cond (.s 19) (.seq (.region [{ op := .mov 4 (.c (.int .i64 1)) false }] none false [4] [])
  .ret) (.skip [] [])))
  (.seq (.region [{ op := .mov 4 (.c (.int .i64 0)) false }] none false [4] [])
  .ret)))))))) }

-- tactician/tacticianref01.Right
def a114 : AFun := { n := 1, N := 51, res := [.tmp 2], body :=
  (.seq (.region [{ op := .box 1 false (.s 0) },
    { op := .mov 2 (.c (.bool false)) false }] none false [1] [1])
  (.seq (.seq (.region [{ op := .faddr 3 0 (.s 1) },
    { op := .load 4 1 false (.s 3) }] none false [1, 4] [1])
  (.block 0 (.seq (.region [{ op := .bin 6 .eql (.s 4) (.c (.int .i64 0)) },
    { op := .mov 5 (.s 6) false }] none false [1, 4, 5] [1])
  (.cond (.s 5) (.seq (.region [{ op := .faddr 7 1 (.s 1) },
    { op := .load 8 1 false (.s 7) },
    { op := .bin 9 .eql (.s 8) (.c (.int .i64 0)) },
    { op := .mov 10 (.s 9) false },
    { op := .faddr 11 2 (.s 1), gd := some (10, true) },
    { op := .load 12 1 false (.s 11), gd := some (10, true) },
    { op := .bin 13 .eql (.s 12) (.c (.str ⟨#[]⟩)), gd := some (10, true) },
    { op := .pick 14 (.s 10) (.s 13) (.c (.bool false)) },
    { op := .mov 2 (.s 14) false }] none false [2] [])
  .ret) (.seq (.region [{ op := .bin 16 .eql (.s 4) (.c (.int .i64 1)) },
    { op := .mov 15 (.s 16) false }] none false [1, 4, 15] [1])
  (.cond (.s 15) (.seq (.region [{ op := .faddr 17 2 (.s 1) },
    { op := .load 18 1 false (.s 17) },
    { op := .bin 19 .eql (.s 18) (.c (.str ⟨#[]⟩)) },
    { op := .mov 2 (.s 19) false }] none false [2] [])
  .ret) (.seq (.region [{ op := .bin 21 .eql (.s 4) (.c (.int .i64 2)) },
    { op := .mov 20 (.s 21) false }] none false [1, 4, 20] [1])
  (.cond (.s 20) (.seq (.region [{ op := .faddr 22 1 (.s 1) },
    { op := .load 23 1 false (.s 22) },
    { op := .bin 24 .eql (.s 23) (.c (.int .i64 0)) },
    { op := .mov 25 (.s 24) false },
    { op := .faddr 26 1 (.s 1), gd := some (25, false) },
    { op := .load 27 1 false (.s 26), gd := some (25, false) },
    { op := .bin 28 .eql (.s 27) (.c (.int .i64 1)), gd := some (25, false) },
    { op := .pick 29 (.s 25) (.c (.bool true)) (.s 28) },
    { op := .mov 30 (.s 29) false },
    { op := .faddr 31 2 (.s 1), gd := some (30, true) },
    { op := .load 32 1 false (.s 31), gd := some (30, true) },
    { op := .bin 33 .eql (.s 32) (.c (.str ⟨#[]⟩)), gd := some (30, true) },
    { op := .pick 34 (.s 30) (.s 33) (.c (.bool false)) },
    { op := .mov 2 (.s 34) false }] none false [2] [])
  .ret) (.seq (.region [{ op := .bin 36 .eql (.s 4) (.c (.int .i64 3)) },
    { op := .mov 35 (.s 36) false }] none false [1, 35] [1])
  (.cond (.s 35) (.seq (.region [{ op := .faddr 37 1 (.s 1) },
    { op := .load 38 1 false (.s 37) },
    { op := .bin 39 .eql (.s 38) (.c (.int .i64 0)) },
    { op := .mov 40 (.s 39) false },
    { op := .faddr 41 2 (.s 1), gd := some (40, true) },
    { op := .load 42 1 false (.s 41), gd := some (40, true) },
    { op := .len 43 true (.s 42), gd := some (40, true) },
    { op := .bin 44 .leq (.s 43) (.c (.int .i64 200)), gd := some (40, true) },
    { op := .pick 45 (.s 40) (.s 44) (.c (.bool false)) },
    { op := .mov 46 (.s 45) false },
    { op := .faddr 47 2 (.s 1), gd := some (46, true) },
    { op := .load 48 1 false (.s 47), gd := some (46, true) },
    { op := .call (some 49) 139 [(.s 48)], gd := some (46, true) },
    { op := .pick 50 (.s 46) (.s 49) (.c (.bool false)) },
    { op := .mov 2 (.s 50) false }] none false [2] [])
  .ret) (.skip [] [])))))))))))
  (.seq (.region [{ op := .mov 2 (.c (.bool false)) false }] none false [2] [])
  .ret))) }

-- tactician/traits.settle
def a115_l0 : ACode := (.seq (.region [{ op := .bin 16 .lss (.s 15) (.s 14) }] none false [3, 13, 14, 15, 16] [])
  (.seq (.cond (.s 16) (.skip [3, 13, 14, 15] []) (.exit 0 [3] []))
  (.seq (.block 1 (.seq (.region [{ op := .iaddrS 17 1 (.s 13) (.s 15) },
    { op := .load 18 1 false (.s 17) },
    { op := .mov 5 (.s 18) false }] none false [3, 5, 13, 14, 15] [])
  (.region [{ op := .mov 19 (.s 3) false },
    { op := .mov 20 (.s 3) false },
    { op := .mov 21 (.s 5) false },
    { op := .nilchk 22 (.s 20) },
    { op := .faddr 23 0 (.s 22) },
    { op := .iaddrA 24 16 1 (.s 23) (.s 21) },
    { op := .load 25 1 false (.s 24) },
    { op := .nilchk 26 (.s 19) },
    { op := .faddr 27 17 (.s 26) },
    { op := .iaddrA 28 16 1 (.s 27) (.s 25) },
    { op := .store (.s 28) (.c (.bool true)) 1 false }] (some [0, 0, 0, 2, 10, 30, 62, 1, 129, 511, 1023]) true [3, 13, 14, 15] [])))
  (.region [{ op := .bin 29 .add (.s 15) (.c (.int .i64 1)) },
    { op := .mov 15 (.s 29) false }] none false [3, 13, 14, 15] []))))
def a115 : AFun := { n := 1, N := 31, res := [.tmp 2], keepB := 1, body :=
  (.seq (.region [{ op := .box 1 false (.s 0) },
    { op := .mov 2 (.c (.nilptr)) false }] none false [1] [1])
  (.seq (.region [{ op := .load 6 3 true (.s 1), blk := some 1 },
    { op := .call (some 7) 140 [(.s 6)] },
    { op := .faddr 8 2 (.s 1) },
    { op := .load 9 1 false (.s 8), blk := some 1 },
    { op := .build 10 [.int .i64 0, .int .i64 0, .int .i64 0, .int .i64 0, .int .i64 0, .int .i64 0, .int .i64 0, .int .i64 0, .int .i64 0, .int .i64 0, .int .i64 0, .int .i64 0, .int .i64 0, .int .i64 0, .int .i64 0, .int .i64 0, .slice 1 [], .bool false, .bool false, .bool false, .bool false, .bool false, .bool false, .bool false, .bool false, .bool false, .bool false, .bool false, .bool false, .bool false, .bool false, .bool false, .bool false] [(0, 16, (.s 7)), (16, 1, (.s 9))] },
    { op := .box 11 true (.s 10) },
    { op := .mov 3 (.s 11) false }] (some [0, 1, 0, 4, 15, 31, 63]) true [1, 3] [1])
  (.seq (.seq (.region [{ op := .faddr 12 0 (.s 1) },
    { op := .load 13 1 false (.s 12) },
    { op := .len 14 false (.s 13) },
    { op := .mov 15 (.c (.int .i64 0)) false }] none false [3, 13, 14, 15] [])
  (.block 0 (.loop a115_l0)))
  (.seq (.region [{ op := .mov 30 (.s 3) false },
    { op := .mov 2 (.s 30) false }] none false [2] [])
  .ret)))) }

-- (*tactician/traits.settling).settled
def a116_l0 : ACode := (.seq (.region [{ op := .bin 32 .lss (.s 31) (.s 30) }] none false [0, 23, 24, 25, 29, 30, 31, 32] [])
  (.seq (.cond (.s 32) (.skip [0, 23, 24, 25, 29, 30, 31] []) (.exit 2 [] []))
  (.seq (.block 3 (.seq (.region [{ op := .iaddrS 33 1 (.s 29) (.s 31) },
    { op := .load 34 1 false (.s 33) },
    { op := .mov 8 (.s 34) false }] none false [0, 8, 23, 24, 25, 29, 30, 31] [])
  (.seq (.region [{ op := .mov 35 (.s 0) false },
    { op := .mov 36 (.s 0) false },
    { op := .mov 37 (.s 8) false },
    { op := .nilchk 38 (.s 36) },
    { op := .faddr 39 0 (.s 38) },
    { op := .iaddrA 40 16 1 (.s 39) (.s 37) },
    { op := .load 41 1 false (.s 40) },
    { op := .nilchk 42 (.s 35) },
    { op := .faddr 43 17 (.s 42) },
    { op := .iaddrA 44 16 1 (.s 43) (.s 41) },
    { op := .load 45 1 false (.s 44) },
    { op := .un 46 .not (.s 45) }] (some [0, 0, 0, 2, 10, 30, 62, 1, 129, 511, 1023, 2047]) true [0, 23, 24, 25, 29, 30, 31, 46] [])
  (.cond (.s 46) (.exit 1 [0, 23, 24, 25] []) (.skip [0, 23, 24, 25, 29, 30, 31] [])))))
  (.region [{ op := .bin 47 .add (.s 31) (.c (.int .i64 1)) },
    { op := .mov 31 (.s 47) false }] none false [0, 23, 24, 25, 29, 30, 31] []))))
def a116_l1 : ACode := (.seq (.region [{ op := .bin 26 .lss (.s 25) (.s 24) }] none false [0, 23, 24, 25, 26] [])
  (.seq (.cond (.s 26) (.skip [0, 23, 24, 25] []) (.exit 0 [] []))
  (.seq (.block 1 (.seq (.region [{ op := .iaddrS 27 1 (.s 23) (.s 25) },
    { op := .load 28 1 false (.s 27) },
    { op := .mov 6 (.s 28) true }] none false [0, 6, 23, 24, 25] [])
  (.seq (.seq (.region [{ op := .mov 29 (.s 6) true },
    { op := .len 30 false (.s 29) },
    { op := .mov 31 (.c (.int .i64 0)) false }] none false [0, 23, 24, 25, 29, 30, 31] [])
  (.block 2 (.loop a116_l0)))
  (.seq (.region [{ op := .mov 4 (.c (.bool true)) false }] none false [4] [])
  .ret))))
  (.region [{ op := .bin 48 .add (.s 25) (.c (.int .i64 1)) },
    { op := .mov 25 (.s 48) false }] none false [0, 23, 24, 25] []))))
def a116 : AFun := { n := 2, N := 49, res := [.tmp 4], body :=
  (.seq (.region [{ op := .mov 4 (.c (.bool false)) false }] none false [0, 1] [])
  (.scope (.seq (.seq (.region [{ op := .mov 9 (.s 0) false },
    { op := .mov 10 (.s 0) false },
    { op := .mov 11 (.s 1) false },
    { op := .nilchk 12 (.s 10) },
    { op := .faddr 13 0 (.s 12) },
    { op := .iaddrA 14 16 1 (.s 13) (.s 11) },
    { op := .load 15 1 false (.s 14) },
    { op := .nilchk 16 (.s 9) },
    { op := .faddr 17 17 (.s 16) },
    { op := .iaddrA 18 16 1 (.s 17) (.s 15) },
    { op := .load 19 1 false (.s 18) }] (some [0, 0, 0, 2, 10, 30, 62, 1, 129, 511, 1023]) true [0, 19] [])
  (.cond (.s 19) (.seq (.region [{ op := .mov 4 (.c (.bool true)) false }] none false [4] [])
  .ret) (.skip [0] [])))
  (.seq .label
  (.seq (.seq (.region [{ op := .mov 20 (.s 0) false },
    { op := .nilchk 21 (.s 20) },
    { op := .faddr 22 16 (.s 21) },
    { op := .load 23 1 false (.s 22) },
    { op := .len 24 false (.s 23) },
    { op := .mov 25 (.c (.int .i64 0)) false }] none false [0, 23, 24, 25] [])
  (.block 0 (.loop a116_l1)))
  (.seq (.region [{ op := .mov 4 (.c (.bool false)) false }] none false [4] [])
  .ret)))))) }

-- tactician/traits.alike[tactician/api.Key]
def a117_l0 : ACode := (.seq (.seq (.region [{ op := .mov 6 (.s 5) false },
    { op := .mov 7 (.s 0) false },
    { op := .len 8 false (.s 7) },
    { op := .bin 9 .lss (.s 6) (.s 8) },
    { op := .mov 10 (.s 9) false },
    { op := .mov 11 (.s 5) false, gd := some (10, true) },
    { op := .mov 12 (.s 1) false, gd := some (10, true) },
    { op := .len 13 false (.s 12), gd := some (10, true) },
    { op := .bin 14 .lss (.s 11) (.s 13), gd := some (10, true) },
    { op := .pick 15 (.s 10) (.s 14) (.c (.bool false)) },
    { op := .mov 16 (.s 15) false },
    { op := .mov 17 (.s 0) false, gd := some (16, true) },
    { op := .mov 18 (.s 5) false, gd := some (16, true) },
    { op := .iaddrS 19 2 (.s 17) (.s 18), gd := some (16, true) },
    { op := .load 20 2 true (.s 19), gd := some (16, true), blk := some 99999 },
    { op := .mov 21 (.s 1) false, gd := some (16, true) },
    { op := .mov 22 (.s 5) false, gd := some (16, true) },
    { op := .iaddrS 23 2 (.s 21) (.s 22), gd := some (16, true) },
    { op := .load 24 2 true (.s 23), gd := some (16, true), blk := some 99999 },
    { op := .eqagg 25 false [0, 1] (.s 20) (.s 24), gd := some (16, true) },
    { op := .pick 26 (.s 16) (.s 25) (.c (.bool false)) }] (some [0, 0, 2, 7, 15, 31, 31, 95, 255, 511, 1023, 2047, 2047, 8191, 16383, 2047, 2047, 100351, 231423, 524287, 1048575]) true [0, 1, 5, 26] [])
  (.cond (.s 26) (.skip [0, 1, 5] []) (.exit 0 [5] [])))
  (.block 1 (.region [{ op := .mov 27 (.s 5) false },
    { op := .bin 28 .add (.s 27) (.c (.int .i64 1)) },
    { op := .mov 5 (.s 28) false }] none false [0, 1, 5] [])))
def a117 : AFun := { n := 2, N := 30, res := [.tmp 4], body :=
  (.seq (.region [{ op := .mov 4 (.c (.int .i64 0)) false }] none false [0, 1] [])
  (.seq (.region [{ op := .mov 5 (.c (.int .i64 0)) false }] none false [0, 1, 5] [])
  (.seq (.block 0 (.loop a117_l0))
  (.seq (.region [{ op := .mov 29 (.s 5) false },
    { op := .mov 4 (.s 29) false }] none false [4] [])
  .ret)))) }

-- slices.ContainsFunc[[]tactician/api.Key,tactician/api.Key]
def a119 : AFun := { n := 2, N := 9, res := [.tmp 4], body :=
  (.seq (.region [{ op := .mov 4 (.c (.bool false)) false }] none false [0, 1] [])
  (.seq (.region [{ op := .mov 5 (.s 0) true },
    { op := .mov 6 (.s 1) false },
    { op := .call (some 7) 141 [(.s 5), (.s 6)] },
    { op := .bin 8 .geq (.s 7) (.c (.int .i64 0)) },
    { op := .mov 4 (.s 8) false }] none false [4] [])
  .ret)) }

-- tactician/traits.Filled$1
def a120 : AFun := { n := 2, N := 8, res := [.tmp 3], body :=
  (.seq (.region [{ op := .box 2 false (.s 0) },
    { op := .mov 3 (.c (.bool false)) false }] none false [1, 2] [2])
  (.seq (.region [{ op := .faddr 4 0 (.s 2) },
    { op := .load 5 1 false (.s 4) },
    { op := .load 6 1 false (.s 1) },
    { op := .bin 7 .eql (.s 5) (.s 6) },
    { op := .mov 3 (.s 7) false }] none false [3] [])
  .ret)) }

-- tactician/traits.all[tactician/api.Key]$1
def a121 : AFun := { n := 2, N := 8, res := [.tmp 3], body :=
  (.seq (.region [{ op := .box 2 false (.s 0) },
    { op := .mov 3 (.c (.bool false)) false }] none false [1, 2] [2])
  (.seq (.region [{ op := .load 4 1 false (.s 1) },
    { op := .load 5 2 true (.s 2) },
    { op := .callv (some 6) (.s 4) [(.s 5)] },
    { op := .un 7 .not (.s 6) },
    { op := .mov 3 (.s 7) false }] none false [3] [])
  .ret)) }

-- internal/stringslite.CutSuffix
def a128 : AFun := { n := 2, N := 18, res := [.tmp 4, .tmp 5], body :=
  (.seq (.region [{ op := .mov 4 (.c (.str ⟨#[]⟩)) false },
    { op := .mov 5 (.c (.bool false)) false }] none false [0, 1] [])
  (.seq (.seq (.region [{ op := .mov 6 (.s 0) false },
    { op := .mov 7 (.s 1) false },
    { op := .call (some 8) 145 [(.s 6), (.s 7)] },
    { op := .un 9 .not (.s 8) }] none false [0, 1, 9] [])
  (.cond (.s 9) (.seq (.region [{ op := .mov 10 (.s 0) false },
    { op := .mov 4 (.s 10) false },
    { op := .mov 5 (.c (.bool false)) false }] none false [4, 5] [])
  .ret) (.skip [0, 1] [])))
  (.seq (.region [{ op := .mov 11 (.s 0) false },
    { op := .mov 12 (.s 0) false },
    { op := .len 13 true (.s 12) },
    { op := .mov 14 (.s 1) false },
    { op := .len 15 true (.s 14) },
    { op := .bin 16 .sub (.s 13) (.s 15) },
    { op := .sliceS 17 (.s 11) none (some (.s 16)) },
    { op := .mov 4 (.s 17) false },
    { op := .mov 5 (.c (.bool true)) false }] none false [4, 5] [])
  .ret))) }

-- tactician/traits.isCol$1
def a131 : AFun := { n := 2, N := 11, res := [.tmp 3], body :=
  (.seq (.region [{ op := .mov 3 (.c (.bool false)) false }] none false [0, 1] [])
  (.seq (.region [{ op := .mov 4 (.s 0) false },
    { op := .bin 5 .geq (.s 4) (.c (.int .i64 0)) },
    { op := .mov 6 (.s 5) false },
    { op := .mov 7 (.s 0) false, gd := some (6, true) },
    { op := .load 8 1 false (.s 1), gd := some (6, true) },
    { op := .bin 9 .lss (.s 7) (.s 8), gd := some (6, true) },
    { op := .pick 10 (.s 6) (.s 9) (.c (.bool false)) },
    { op := .mov 3 (.s 10) false }] none false [3] [])
  .ret)) }

-- slices.IndexFunc[[][]tactician/api.Key,[]tactician/api.Key]
def a132_l0 : ACode := (.seq (.region [{ op := .bin 9 .lss (.s 8) (.s 7) }] none false [0, 1, 7, 8, 9] [])
  (.seq (.cond (.s 9) (.skip [0, 1, 7, 8] []) (.exit 0 [] []))
  (.seq (.block 1 (.seq (.region [{ op := .mov 10 (.s 8) false },
    { op := .mov 5 (.s 10) false }] none false [0, 1, 5, 7, 8] [])
  (.seq (.region [{ op := .mov 11 (.s 1) false },
    { op := .mov 12 (.s 0) false },
    { op := .mov 13 (.s 5) false },
    { op := .iaddrS 14 1 (.s 12) (.s 13) },
    { op := .load 15 1 false (.s 14) },
    { op := .callv (some 16) (.s 11) [(.s 15)] }] none false [0, 1, 5, 7, 8, 16] [])
  (.cond (.s 16) (.seq (.region [{ op := .mov 17 (.s 5) false },
    { op := .mov 4 (.s 17) false }] none false [4] [])
  .ret) (.skip [0, 1, 7, 8] [])))))
  (.region [{ op := .bin 18 .add (.s 8) (.c (.int .i64 1)) },
    { op := .mov 8 (.s 18) false }] none false [0, 1, 7, 8] []))))
def a132 : AFun := { n := 2, N := 19, res := [.tmp 4], body :=
  (.seq (.region [{ op := .mov 4 (.c (.int .i64 0)) false }] none false [0, 1] [])
  (.seq (.seq (.region [{ op := .mov 6 (.s 0) false },
    { op := .len 7 false (.s 6) },
    { op := .mov 8 (.c (.int .i64 0)) false }] none false [0, 1, 7, 8] [])
  (.block 0 (.loop a132_l0)))
  (.seq (.region [{ op := .mov 4 (.c (.int .i64 (-1))) false }] none false [4] [])
  .ret))) }

-- slices.IndexFunc[[]tactician/api.Value,tactician/api.Value]
def a133_l0 : ACode := (.seq (.region [{ op := .bin 9 .lss (.s 8) (.s 7) }] none false [0, 1, 7, 8, 9] [])
  (.seq (.cond (.s 9) (.skip [0, 1, 7, 8] []) (.exit 0 [] []))
  (.seq (.block 1 (.seq (.region [{ op := .mov 10 (.s 8) false },
    { op := .mov 5 (.s 10) false }] none false [0, 1, 5, 7, 8] [])
  (.seq (.region [{ op := .mov 11 (.s 1) false },
    { op := .mov 12 (.s 0) false },
    { op := .mov 13 (.s 5) false },
    { op := .iaddrS 14 3 (.s 12) (.s 13) },
    { op := .load 15 3 true (.s 14) },
    { op := .callv (some 16) (.s 11) [(.s 15)] }] none false [0, 1, 5, 7, 8, 16] [])
  (.cond (.s 16) (.seq (.region [{ op := .mov 17 (.s 5) false },
    { op := .mov 4 (.s 17) false }] none false [4] [])
  .ret) (.skip [0, 1, 7, 8] [])))))
  (.region [{ op := .bin 18 .add (.s 8) (.c (.int .i64 1)) },
    { op := .mov 8 (.s 18) false }] none false [0, 1, 7, 8] []))))
def a133 : AFun := { n := 2, N := 19, res := [.tmp 4], body :=
  (.seq (.region [{ op := .mov 4 (.c (.int .i64 0)) false }] none false [0, 1] [])
  (.seq (.seq (.region [{ op := .mov 6 (.s 0) false },
    { op := .len 7 false (.s 6) },
    { op := .mov 8 (.c (.int .i64 0)) false }] none false [0, 1, 7, 8] [])
  (.block 0 (.loop a133_l0)))
  (.seq (.region [{ op := .mov 4 (.c (.int .i64 (-1))) false }] none false [4] [])
  .ret))) }

-- cmp.isNaN[tactician/api.Kind]
def a136 : AFun := { n := 1, N := 6, res := [.tmp 2], body :=
  (.seq (.region [{ op := .mov 2 (.c (.bool false)) false }] none false [0] [])
  (.seq (.region [{ op := .mov 3 (.s 0) false },
    { op := .mov 4 (.s 0) false },
    { op := .bin 5 .neq (.s 3) (.s 4) },
    { op := .mov 2 (.s 5) false }] none false [2] [])
  .ret)) }

-- cmp.isNaN[int64]
def a137 : AFun := { n := 1, N := 6, res := [.tmp 2], body :=
  (.seq (.region [{ op := .mov 2 (.c (.bool false)) false }] none false [0] [])
  (.seq (.region [{ op := .mov 3 (.s 0) false },
    { op := .mov 4 (.s 0) false },
    { op := .bin 5 .neq (.s 3) (.s 4) },
    { op := .mov 2 (.s 5) false }] none false [2] [])
  .ret)) }

-- cmp.isNaN[string]
def a138 : AFun := { n := 1, N := 6, res := [.tmp 2], body :=
  (.seq (.region [{ op := .mov 2 (.c (.bool false)) false }] none false [0] [])
  (.seq (.region [{ op := .mov 3 (.s 0) false },
    { op := .mov 4 (.s 0) false },
    { op := .bin 5 .neq (.s 3) (.s 4) },
    { op := .mov 2 (.s 5) false }] none false [2] [])
  .ret)) }

-- tactician/tacticianref01.printable
def a139_l0 : ACode := (.seq (.seq (.region [{ op := .mov 4 (.s 3) false },
    { op := .mov 5 (.s 0) false },
    { op := .len 6 true (.s 5) },
    { op := .bin 7 .lss (.s 4) (.s 6) }] none false [0, 3, 7] [])
  (.cond (.s 7) (.skip [0, 3] []) (.exit 0 [] [])))
  (.seq (.block 1 (.seq (.region [{ op := .mov 10 (.s 0) false },
    { op := .mov 11 (.s 3) false },
    { op := .idxS 12 (.s 10) (.s 11) },
    { op := .bin 13 .lss (.s 12) (.c (.int .u8 32)) },
    { op := .mov 14 (.s 13) false },
    { op := .mov 15 (.s 0) false, gd := some (14, false) },
    { op := .mov 16 (.s 3) false, gd := some (14, false) },
    { op := .idxS 17 (.s 15) (.s 16), gd := some (14, false) },
    { op := .bin 18 .gtr (.s 17) (.c (.int .u8 126)), gd := some (14, false) },
    { op := .pick 19 (.s 14) (.c (.bool true)) (.s 18) }] none false [0, 3, 19] [])
  (.cond (.s 19) (.seq (.region [{ op := .mov 2 (.c (.bool false)) false }] none false [2] [])
  .ret) (.skip [0, 3] []))))
  (.region [{ op := .mov 8 (.s 3) false },
    { op := .bin 9 .add (.s 8) (.c (.int .i64 1)) },
    { op := .mov 3 (.s 9) false }] none false [0, 3] [])))
def a139 : AFun := { n := 1, N := 20, res := [.tmp 2], body :=
  (.seq (.region [{ op := .mov 2 (.c (.bool false)) false }] none false [0] [])
  (.seq (.seq (.region [{ op := .mov 3 (.c (.int .i64 0)) false }] none false [0, 3] [])
  (.block 0 (.loop a139_l0)))
  (.seq (.region [{ op := .mov 2 (.c (.bool true)) false }] none false [2] [])
  .ret))) }

-- tactician/traits.joined
def a140_l0 : ACode := (.seq (.region [{ op := .bin 11 .lss (.s 10) (.c (.int .i64 16)) }] none false [1, 2, 3, 10, 11] [1, 2, 3])
  (.seq (.cond (.s 11) (.skip [1, 2, 3, 10] [1, 2, 3]) (.exit 0 [1, 2, 3] [1, 2, 3]))
  (.seq (.block 1 (.seq (.region [{ op := .mov 12 (.s 10) false },
    { op := .mov 4 (.s 12) false }] none false [1, 2, 3, 4, 10] [1, 2, 3])
  (.region [{ op := .mov 13 (.s 4) false },
    { op := .mov 14 (.s 4) false },
    { op := .iaddrA 15 16 1 (.s 3) (.s 13) },
    { op := .store (.s 15) (.s 14) 1 false }] none false [1, 2, 3, 10] [1, 2, 3])))
  (.region [{ op := .bin 16 .add (.s 10) (.c (.int .i64 1)) },
    { op := .mov 10 (.s 16) false }] none false [1, 2, 3, 10] [1, 2, 3]))))
def a140_l1 : ACode := (.seq (.region [{ op := .bin 22 .lss (.s 21) (.s 20) }] none false [1, 2, 3, 5, 19, 20, 21, 22] [1, 2, 3])
  (.seq (.cond (.s 22) (.skip [1, 2, 3, 5, 19, 20, 21] [1, 2, 3]) (.exit 4 [1, 2, 3, 5] [1, 2, 3]))
  (.seq (.block 5 (.seq (.region [{ op := .iaddrS 23 2 (.s 19) (.s 21) },
    { op := .load 24 2 true (.s 23) },
    { op := .alloc 7 false [.int .i64 0, .int .i64 0] [] },
    { op := .store (.s 7) (.s 24) 2 false }] none false [1, 2, 3, 5, 7, 19, 20, 21] [1, 2, 3, 7])
  (.seq (.region [{ op := .iaddrA 25 2 1 (.s 7) (.c (.int .i64 0)) },
    { op := .load 26 1 false (.s 25), blk := some 7 },
    { op := .iaddrA 27 16 1 (.s 3) (.s 26) },
    { op := .load 28 1 false (.s 27), blk := some 3 },
    { op := .iaddrA 29 2 1 (.s 7) (.c (.int .i64 1)) },
    { op := .load 30 1 false (.s 29), blk := some 7 },
    { op := .iaddrA 31 16 1 (.s 3) (.s 30) },
    { op := .load 32 1 false (.s 31), blk := some 3 },
    { op := .mov 8 (.s 28) false },
    { op := .mov 9 (.s 32) false }] (some [0, 1, 3, 7, 0, 16, 48, 112, 15, 511]) true [1, 2, 3, 5, 7, 8, 9, 19, 20, 21] [1, 2, 3, 7])
  (.seq (.region [{ op := .mov 33 (.s 8) false },
    { op := .mov 34 (.s 9) false },
    { op := .bin 35 .neq (.s 33) (.s 34) }] none false [1, 2, 3, 5, 7, 8, 9, 19, 20, 21, 35] [1, 2, 3, 7])
  (.cond (.s 35) (.seq (.region [{ op := .iaddrA 36 2 1 (.s 7) (.c (.int .i64 0)) },
    { op := .load 37 1 false (.s 36), blk := some 7 },
    { op := .iaddrA 38 2 1 (.s 7) (.c (.int .i64 1)) },
    { op := .load 39 1 false (.s 38), blk := some 7 },
    { op := .mov 40 (.s 8) false },
    { op := .mov 41 (.s 9) false },
    { op := .mm 42 false (.s 40) (.s 41) },
    { op := .mov 43 (.s 8) false },
    { op := .mov 44 (.s 9) false },
    { op := .mm 45 false (.s 43) (.s 44) },
    { op := .iaddrA 46 16 1 (.s 3) (.s 37) },
    { op := .store (.s 46) (.s 42) 1 false, blk := some 3 },
    { op := .iaddrA 47 16 1 (.s 3) (.s 39) },
    { op := .store (.s 47) (.s 45) 1 false, blk := some 3 }] (some [0, 1, 0, 4, 0, 0, 48, 0, 0, 384, 115, 1139, 4095, 8191]) true [1, 2, 3, 8, 9, 19, 20, 21] [1, 2, 3])
  (.seq (.region [{ op := .mov 48 (.s 8) false },
    { op := .mov 49 (.s 9) false },
    { op := .mm 50 true (.s 48) (.s 49) },
    { op := .mov 51 (.s 8) false },
    { op := .mov 52 (.s 9) false },
    { op := .mm 53 false (.s 51) (.s 52) },
    { op := .iaddrA 54 16 1 (.s 3) (.s 50) },
    { op := .store (.s 54) (.s 53) 1 false }] none false [1, 2, 3, 19, 20, 21] [1, 2, 3])
  (.region [{ op := .mov 5 (.c (.bool true)) false }] none false [1, 2, 3, 5, 19, 20, 21] [1, 2, 3]))) (.skip [1, 2, 3, 5, 19, 20, 21] [1, 2, 3]))))))
  (.region [{ op := .bin 55 .add (.s 21) (.c (.int .i64 1)) },
    { op := .mov 21 (.s 55) false }] none false [1, 2, 3, 5, 19, 20, 21] [1, 2, 3]))))
def a140_l2 : ACode := (.seq (.seq (.region [{ op := .mov 17 (.s 5) false }] none false [1, 2, 3, 17] [1, 2, 3])
  (.cond (.s 17) (.skip [1, 2, 3] [1, 2, 3]) (.exit 2 [2, 3] [2, 3])))
  (.block 3 (.seq (.region [{ op := .mov 5 (.c (.bool false)) false }] none false [1, 2, 3, 5] [1, 2, 3])
  (.seq (.region [{ op := .faddr 18 1 (.s 1) },
    { op := .load 19 1 false (.s 18) },
    { op := .len 20 false (.s 19) },
    { op := .mov 21 (.c (.int .i64 0)) false }] none false [1, 2, 3, 5, 19, 20, 21] [1, 2, 3])
  (.block 4 (.loop a140_l1))))))
def a140 : AFun := { n := 1, N := 57, res := [.cell 2 16 true], body :=
  (.seq (.region [{ op := .box 1 false (.s 0) },
    { op := .alloc 2 false (List.replicate 16 (.int .i64 0)) [] }] none false [1, 2] [1, 2])
  (.seq (.region [{ op := .alloc 3 false (List.replicate 16 (.int .i64 0)) [] }] none false [1, 2, 3] [1, 2, 3])
  (.seq (.seq (.region [{ op := .mov 10 (.c (.int .i64 0)) false }] none false [1, 2, 3, 10] [1, 2, 3])
  (.block 0 (.loop a140_l0)))
  (.seq (.seq (.region [{ op := .mov 5 (.c (.bool true)) false }] none false [1, 2, 3, 5] [1, 2, 3])
  (.block 2 (.loop a140_l2)))
  (.seq (.region [{ op := .load 56 16 true (.s 3) },
    { op := .store (.s 2) (.s 56) 16 false }] none false [2] [2])
  .ret))))) }

-- slices.IndexFunc[[]tactician/api.Key,tactician/api.Key]
def a141_l0 : ACode := (.seq (.region [{ op := .bin 9 .lss (.s 8) (.s 7) }] none false [0, 1, 7, 8, 9] [])
  (.seq (.cond (.s 9) (.skip [0, 1, 7, 8] []) (.exit 0 [] []))
  (.seq (.block 1 (.seq (.region [{ op := .mov 10 (.s 8) false },
    { op := .mov 5 (.s 10) false }] none false [0, 1, 5, 7, 8] [])
  (.seq (.region [{ op := .mov 11 (.s 1) false },
    { op := .mov 12 (.s 0) false },
    { op := .mov 13 (.s 5) false },
    { op := .iaddrS 14 2 (.s 12) (.s 13) },
    { op := .load 15 2 true (.s 14) },
    { op := .callv (some 16) (.s 11) [(.s 15)] }] none false [0, 1, 5, 7, 8, 16] [])
  (.cond (.s 16) (.seq (.region [{ op := .mov 17 (.s 5) false },
    { op := .mov 4 (.s 17) false }] none false [4] [])
  .ret) (.skip [0, 1, 7, 8] [])))))
  (.region [{ op := .bin 18 .add (.s 8) (.c (.int .i64 1)) },
    { op := .mov 8 (.s 18) false }] none false [0, 1, 7, 8] []))))
def a141 : AFun := { n := 2, N := 19, res := [.tmp 4], body :=
  (.seq (.region [{ op := .mov 4 (.c (.int .i64 0)) false }] none false [0, 1] [])
  (.seq (.seq (.region [{ op := .mov 6 (.s 0) false },
    { op := .len 7 false (.s 6) },
    { op := .mov 8 (.c (.int .i64 0)) false }] none false [0, 1, 7, 8] [])
  (.block 0 (.loop a141_l0)))
  (.seq (.region [{ op := .mov 4 (.c (.int .i64 (-1))) false }] none false [4] [])
  .ret))) }

-- internal/stringslite.HasSuffix
def a145 : AFun := { n := 2, N := 21, res := [.tmp 4], body :=
  (.seq (.region [{ op := .mov 4 (.c (.bool false)) false }] none false [0, 1] [])
  (.seq (.region [{ op := .mov 5 (.s 0) false },
    { op := .len 6 true (.s 5) },
    { op := .mov 7 (.s 1) false },
    { op := .len 8 true (.s 7) },
    { op := .bin 9 .geq (.s 6) (.s 8) },
    { op := .mov 10 (.s 9) false },
    { op := .mov 11 (.s 0) false, gd := some (10, true) },
    { op := .mov 12 (.s 0) false, gd := some (10, true) },
    { op := .len 13 true (.s 12), gd := some (10, true) },
    { op := .mov 14 (.s 1) false, gd := some (10, true) },
    { op := .len 15 true (.s 14), gd := some (10, true) },
    { op := .bin 16 .sub (.s 13) (.s 15), gd := some (10, true) },
    { op := .sliceS 17 (.s 11) (some (.s 16)) none, gd := some (10, true) },
    { op := .mov 18 (.s 1) false, gd := some (10, true) },
    { op := .bin 19 .eql (.s 17) (.s 18), gd := some (10, true) },
    { op := .pick 20 (.s 10) (.s 19) (.c (.bool false)) },
    { op := .mov 4 (.s 20) false }] none false [4] [])
  .ret)) }

def tabA : List (Nat × AFun) := [(3, a3), (4, a4), (5, a5), (6, a6), (7, a7), (8, a8), (9, a9), (10, a10), (11, a11), (12, a12), (13, a13), (14, a14), (15, a15), (16, a16), (17, a17), (18, a18), (19, a19), (20, a20), (21, a21), (22, a22), (23, a23), (24, a24), (25, a25), (26, a26), (27, a27), (28, a28), (29, a29), (30, a30), (31, a31), (32, a32), (33, a33), (34, a34), (35, a35), (36, a36), (37, a37), (38, a38), (39, a39), (40, a40), (41, a41), (42, a42), (43, a43), (44, a44), (45, a45), (46, a46), (47, a47), (48, a48), (49, a49), (50, a50), (51, a51), (52, a52), (53, a53), (54, a54), (55, a55), (56, a56), (57, a57), (58, a58), (59, a59), (60, a60), (61, a61), (62, a62), (63, a63), (64, a64), (65, a65), (66, a66), (67, a67), (68, a68), (69, a69), (70, a70), (71, a71), (72, a72), (73, a73), (74, a74), (75, a75), (76, a76), (77, a77), (78, a78), (79, a79), (80, a80), (81, a81), (82, a82), (83, a83), (84, a84), (88, a88), (90, a90), (91, a91), (92, a92), (93, a93), (94, a94), (95, a95), (96, a96), (97, a97), (98, a98), (99, a99), (100, a100), (101, a101), (102, a102), (103, a103), (104, a104), (105, a105), (106, a106), (107, a107), (110, a110), (111, a111), (112, a112), (113, a113), (114, a114), (115, a115), (116, a116), (117, a117), (119, a119), (120, a120), (121, a121), (128, a128), (131, a131), (132, a132), (133, a133), (136, a136), (137, a137), (138, a138), (139, a139), (140, a140), (141, a141), (145, a145)]
def tabX : List (Nat × Ext') := [(85, xItoa), (86, xJoin), (87, xFields), (89, xAtoi 171), (118, xClone 2 52 16)]
theorem mixed : Tryz.prog.follows .mixedOrders = true := by kernel_rfl
theorem tabA_ok : tabA.all (fun p => mFun Tryz.prog p.1 p.2) = true := by kernel_rfl
end Go.Av
