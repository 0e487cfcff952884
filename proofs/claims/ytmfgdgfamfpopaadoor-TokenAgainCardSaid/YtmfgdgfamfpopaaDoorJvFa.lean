/- Part of a proof: The functions of the seat in the abstract form (printed by airgen.py), and that they are the program's. -/
import Derived.Test.YtmfgdgfamfpopaaDoorProg
import Derived.Test.YtmfgdgfamfpopaaDoorF3
set_option maxRecDepth 100000
namespace Go.Av
open Go Go.Proofs

-- tactician/tacticianlaw08.TokenJoins
def a3_l0 : ACode := (.seq (.seq (.region [{ op := .mov 7 (.s 5) false },
    { op := .mov 8 (.s 0) false },
    { op := .len 9 false (.s 8) },
    { op := .bin 10 .lss (.s 7) (.s 9) },
    { op := .mov 11 (.s 10) false },
    { op := .mov 12 (.s 5) false, gd := some (11, true) },
    { op := .bin 13 .lss (.s 12) (.c (.int .i64 60)), gd := some (11, true) },
    { op := .pick 14 (.s 11) (.s 13) (.c (.bool false)) }] none false [0, 3, 4, 5, 14] [])
  (.cond (.s 14) (.skip [0, 3, 4, 5] []) (.exit 0 [3, 4] [])))
  (.seq (.block 1 (.seq (.region [{ op := .mov 17 (.s 0) false },
    { op := .mov 18 (.s 5) false },
    { op := .iaddrS 19 3 (.s 17) (.s 18) },
    { op := .load 20 3 true (.s 19) },
    { op := .alloc 6 false [.int .i64 0, .str ⟨#[]⟩, .int .i64 0] [] },
    { op := .store (.s 6) (.s 20) 3 false }] none false [0, 3, 4, 5, 6] [6])
  (.seq (.region [{ op := .faddr 21 1 (.s 6) },
    { op := .load 22 1 false (.s 21) },
    { op := .faddr 23 1 (.s 6) },
    { op := .load 24 1 false (.s 23) },
    { op := .len 25 true (.s 24) },
    { op := .mm 26 false (.s 25) (.c (.int .i64 100)) },
    { op := .sliceS 27 (.s 22) none (some (.s 26)) },
    { op := .faddr 28 1 (.s 6) },
    { op := .store (.s 28) (.s 27) 1 false }] none false [0, 3, 4, 5, 6] [6])
  (.seq (.region [{ op := .mov 29 (.s 3) true },
    { op := .load 30 3 true (.s 6) },
    { op := .bslice 31 3 26 [(.s 30)] },
    { op := .append 32 3 26 32 (.s 29) (.s 31) },
    { op := .mov 3 (.s 32) true }] none false [0, 3, 4, 5, 6] [6])
  (.region [{ op := .mov 33 (.s 4) true },
    { op := .faddr 34 1 (.s 6) },
    { op := .load 35 1 false (.s 34) },
    { op := .bslice 36 1 9 [(.s 35)] },
    { op := .append 37 1 9 16 (.s 33) (.s 36) },
    { op := .mov 4 (.s 37) true }] none false [0, 3, 4, 5] [])))))
  (.region [{ op := .mov 15 (.s 5) false },
    { op := .bin 16 .add (.s 15) (.c (.int .i64 1)) },
    { op := .mov 5 (.s 16) false }] none false [0, 3, 4, 5] [])))
def a3 : AFun := { n := 1, N := 46, res := [.tmp 2], body :=
  (.seq (.region [{ op := .mov 2 (.c (.bool false)) false }] none false [0] [])
  (.seq (.region [{ op := .nils 3 3 26 }] none false [0, 3] [])
  (.seq (.region [{ op := .nils 4 1 9 }] none false [0, 3, 4] [])
  (.seq (.seq (.region [{ op := .mov 5 (.c (.int .i64 0)) false }] none false [0, 3, 4, 5] [])
  (.block 0 (.loop a3_l0)))
  (.seq (.region [{ op := .mov 38 (.s 3) true },
    { op := .call (some 39) 5 [(.s 38)] },
    { op := .mov 40 (.s 4) true },
    { op := .call (some 41) 6 [(.s 40)] },
    { op := .bin 42 .eql (.s 39) (.s 41) },
    { op := .mov 43 (.s 42) false },
    { op := .call (some 44) 7 [], gd := some (43, true) },
    { op := .pick 45 (.s 43) (.s 44) (.c (.bool false)) },
    { op := .mov 2 (.s 45) false }] none false [2] [])
  .ret))))) }

-- tactician/tacticianlaw08.TokenAgain
def a4_l0 : ACode := (.seq (.seq (.region [{ op := .mov 73 (.s 10) false },
    { op := .mov 74 (.s 9) false },
    { op := .bin 75 .lss (.s 73) (.s 74) }] none false [3, 4, 6, 7, 8, 9, 10, 75] [])
  (.cond (.s 75) (.skip [3, 4, 6, 7, 8, 9, 10] []) (.exit 2 [3, 4, 6, 7, 8, 9] [])))
  (.seq (.block 3 (.seq (.region [{ op := .mov 78 (.s 3) false },
    { op := .mov 79 (.s 8) false },
    { op := .mov 80 (.s 10) false },
    { op := .bin 81 .add (.s 79) (.s 80) },
    { op := .idxS 82 (.s 78) (.s 81) },
    { op := .mov 83 (.s 4) false },
    { op := .mov 84 (.s 7) false },
    { op := .iaddrS 85 3 (.s 83) (.s 84) },
    { op := .faddr 86 1 (.s 85) },
    { op := .load 87 1 false (.s 86), blk := some 99999 },
    { op := .mov 88 (.s 10) false },
    { op := .idxS 89 (.s 87) (.s 88) },
    { op := .mov 11 (.s 82) false },
    { op := .mov 12 (.s 89) false }] (some [0, 0, 0, 6, 15, 0, 0, 96, 224, 480, 0, 2016, 31, 8191]) true [3, 4, 6, 7, 8, 9, 10, 11, 12] [])
  (.seq (.region [{ op := .mov 90 (.s 11) false },
    { op := .mov 91 (.s 12) false },
    { op := .bin 92 .neq (.s 90) (.s 91) },
    { op := .mov 93 (.s 92) false },
    { op := .mov 94 (.s 4) false, gd := some (93, true) },
    { op := .mov 95 (.s 7) false, gd := some (93, true) },
    { op := .iaddrS 96 3 (.s 94) (.s 95), gd := some (93, true) },
    { op := .faddr 97 0 (.s 96), gd := some (93, true) },
    { op := .load 98 1 false (.s 97), gd := some (93, true) },
    { op := .bin 99 .eql (.s 98) (.c (.int .i64 4)), gd := some (93, true) },
    { op := .mov 100 (.s 99) false, gd := some (93, true) },
    { op := .mov 101 (.s 11) false, gd := some (100, false) },
    { op := .bin 102 .add (.s 101) (.c (.int .u8 32)), gd := some (100, false) },
    { op := .mov 103 (.s 12) false, gd := some (100, false) },
    { op := .bin 104 .neq (.s 102) (.s 103), gd := some (100, false) },
    { op := .pick 105 (.s 100) (.c (.bool true)) (.s 104), gd := some (93, true) },
    { op := .mov 106 (.s 105) false, gd := some (93, true) },
    { op := .mov 107 (.s 11) false, gd := some (106, false) },
    { op := .bin 108 .lss (.s 107) (.c (.int .u8 65)), gd := some (106, false) },
    { op := .pick 109 (.s 106) (.c (.bool true)) (.s 108), gd := some (93, true) },
    { op := .mov 110 (.s 109) false, gd := some (93, true) },
    { op := .mov 111 (.s 11) false, gd := some (110, false) },
    { op := .bin 112 .gtr (.s 111) (.c (.int .u8 90)), gd := some (110, false) },
    { op := .pick 113 (.s 110) (.c (.bool true)) (.s 112), gd := some (93, true) },
    { op := .pick 114 (.s 93) (.s 113) (.c (.bool false)) }] none false [3, 4, 6, 7, 8, 9, 10, 114] [])
  (.cond (.s 114) (.seq (.region [{ op := .mov 2 (.c (.bool false)) false }] none false [2] [])
  .ret) (.skip [3, 4, 6, 7, 8, 9, 10] [])))))
  (.region [{ op := .mov 76 (.s 10) false },
    { op := .bin 77 .add (.s 76) (.c (.int .i64 1)) },
    { op := .mov 10 (.s 77) false }] none false [3, 4, 6, 7, 8, 9, 10] [])))
def a4_l1 : ACode := (.seq (.seq (.region [{ op := .mov 116 (.s 13) false },
    { op := .mov 117 (.s 8) false },
    { op := .bin 118 .lss (.s 116) (.s 117) }] none false [3, 4, 7, 8, 9, 13, 118] [])
  (.cond (.s 118) (.skip [3, 4, 7, 8, 9, 13] []) (.exit 4 [3, 4, 7, 8, 9] [])))
  (.seq (.block 5 (.seq (.region [{ op := .mov 121 (.s 3) false },
    { op := .mov 122 (.s 13) false },
    { op := .idxS 123 (.s 121) (.s 122) },
    { op := .bin 124 .neq (.s 123) (.c (.int .u8 32)) },
    { op := .mov 125 (.s 124) false },
    { op := .mov 126 (.s 3) false, gd := some (125, true) },
    { op := .mov 127 (.s 13) false, gd := some (125, true) },
    { op := .idxS 128 (.s 126) (.s 127), gd := some (125, true) },
    { op := .bin 129 .neq (.s 128) (.c (.int .u8 10)), gd := some (125, true) },
    { op := .pick 130 (.s 125) (.s 129) (.c (.bool false)) }] none false [3, 4, 7, 8, 9, 13, 130] [])
  (.cond (.s 130) (.seq (.region [{ op := .mov 2 (.c (.bool false)) false }] none false [2] [])
  .ret) (.skip [3, 4, 7, 8, 9, 13] []))))
  (.region [{ op := .mov 119 (.s 13) false },
    { op := .bin 120 .add (.s 119) (.c (.int .i64 1)) },
    { op := .mov 13 (.s 120) false }] none false [3, 4, 7, 8, 9, 13] [])))
def a4_l2 : ACode := (.seq (.seq (.region [{ op := .mov 41 (.s 7) false },
    { op := .mov 42 (.s 4) false },
    { op := .len 43 false (.s 42) },
    { op := .bin 44 .lss (.s 41) (.s 43) }] none false [3, 4, 6, 7, 44] [])
  (.cond (.s 44) (.skip [3, 4, 6, 7] []) (.exit 0 [3, 4, 6] [])))
  (.seq (.block 1 (.seq (.region [{ op := .mov 47 (.s 4) false },
    { op := .mov 48 (.s 7) false },
    { op := .iaddrS 49 3 (.s 47) (.s 48) },
    { op := .faddr 50 2 (.s 49) },
    { op := .load 51 1 false (.s 50), blk := some 99999 },
    { op := .mov 52 (.s 4) false },
    { op := .mov 53 (.s 7) false },
    { op := .iaddrS 54 3 (.s 52) (.s 53) },
    { op := .faddr 55 1 (.s 54) },
    { op := .load 56 1 false (.s 55), blk := some 99999 },
    { op := .len 57 true (.s 56) },
    { op := .mov 8 (.s 51) false },
    { op := .mov 9 (.s 57) false }] (some [0, 0, 3, 7, 15, 0, 0, 96, 224, 480, 992, 31, 4095]) true [3, 4, 6, 7, 8, 9] [])
  (.seq (.seq (.region [{ op := .mov 58 (.s 8) false },
    { op := .mov 59 (.s 6) false },
    { op := .bin 60 .lss (.s 58) (.s 59) },
    { op := .mov 61 (.s 60) false },
    { op := .mov 62 (.s 9) false, gd := some (61, false) },
    { op := .bin 63 .lss (.s 62) (.c (.int .i64 1)), gd := some (61, false) },
    { op := .pick 64 (.s 61) (.c (.bool true)) (.s 63) },
    { op := .mov 65 (.s 64) false },
    { op := .mov 66 (.s 8) false, gd := some (65, false) },
    { op := .mov 67 (.s 9) false, gd := some (65, false) },
    { op := .bin 68 .add (.s 66) (.s 67), gd := some (65, false) },
    { op := .mov 69 (.s 3) false, gd := some (65, false) },
    { op := .len 70 true (.s 69), gd := some (65, false) },
    { op := .bin 71 .gtr (.s 68) (.s 70), gd := some (65, false) },
    { op := .pick 72 (.s 65) (.c (.bool true)) (.s 71) }] none false [3, 4, 6, 7, 8, 9, 72] [])
  (.cond (.s 72) (.seq (.region [{ op := .mov 2 (.c (.bool false)) false }] none false [2] [])
  .ret) (.skip [3, 4, 6, 7, 8, 9] [])))
  (.seq (.seq (.region [{ op := .mov 10 (.c (.int .i64 0)) false }] none false [3, 4, 6, 7, 8, 9, 10] [])
  (.block 2 (.loop a4_l0)))
  (.seq (.seq (.region [{ op := .mov 115 (.s 6) false },
    { op := .mov 13 (.s 115) false }] none false [3, 4, 7, 8, 9, 13] [])
  (.block 4 (.loop a4_l1)))
  (.region [{ op := .mov 131 (.s 8) false },
    { op := .mov 132 (.s 9) false },
    { op := .bin 133 .add (.s 131) (.s 132) },
    { op := .mov 6 (.s 133) false }] none false [3, 4, 6, 7] []))))))
  (.region [{ op := .mov 45 (.s 7) false },
    { op := .bin 46 .add (.s 45) (.c (.int .i64 1)) },
    { op := .mov 7 (.s 46) false }] none false [3, 4, 6, 7] [])))
def a4_l3 : ACode := (.seq (.seq (.region [{ op := .mov 135 (.s 14) false },
    { op := .mov 136 (.s 3) false },
    { op := .len 137 true (.s 136) },
    { op := .bin 138 .lss (.s 135) (.s 137) }] none false [3, 4, 14, 138] [])
  (.cond (.s 138) (.skip [3, 4, 14] []) (.exit 6 [4] [])))
  (.seq (.block 7 (.seq (.region [{ op := .mov 141 (.s 3) false },
    { op := .mov 142 (.s 14) false },
    { op := .idxS 143 (.s 141) (.s 142) },
    { op := .bin 144 .neq (.s 143) (.c (.int .u8 32)) },
    { op := .mov 145 (.s 144) false },
    { op := .mov 146 (.s 3) false, gd := some (145, true) },
    { op := .mov 147 (.s 14) false, gd := some (145, true) },
    { op := .idxS 148 (.s 146) (.s 147), gd := some (145, true) },
    { op := .bin 149 .neq (.s 148) (.c (.int .u8 10)), gd := some (145, true) },
    { op := .pick 150 (.s 145) (.s 149) (.c (.bool false)) }] none false [3, 4, 14, 150] [])
  (.cond (.s 150) (.seq (.region [{ op := .mov 2 (.c (.bool false)) false }] none false [2] [])
  .ret) (.skip [3, 4, 14] []))))
  (.region [{ op := .mov 139 (.s 14) false },
    { op := .bin 140 .add (.s 139) (.c (.int .i64 1)) },
    { op := .mov 14 (.s 140) false }] none false [3, 4, 14] [])))
def a4_l4 : ACode := (.seq (.seq (.region [{ op := .mov 171 (.s 18) false },
    { op := .mov 172 (.s 16) false },
    { op := .len 173 false (.s 172) },
    { op := .bin 174 .lss (.s 171) (.s 173) }] none false [4, 15, 16, 18, 174] [])
  (.cond (.s 174) (.skip [4, 15, 16, 18] []) (.exit 8 [15, 16] [])))
  (.seq (.block 9 (.seq (.region [{ op := .mov 177 (.s 16) false },
    { op := .mov 178 (.s 18) false },
    { op := .iaddrS 179 3 (.s 177) (.s 178) },
    { op := .faddr 180 0 (.s 179) },
    { op := .load 181 1 false (.s 180), blk := some 99999 },
    { op := .mov 182 (.s 4) false },
    { op := .mov 183 (.s 18) false },
    { op := .iaddrS 184 3 (.s 182) (.s 183) },
    { op := .faddr 185 0 (.s 184) },
    { op := .load 186 1 false (.s 185), blk := some 99999 },
    { op := .bin 187 .neq (.s 181) (.s 186) },
    { op := .mov 188 (.s 187) false },
    { op := .mov 189 (.s 16) false, gd := some (188, false) },
    { op := .mov 190 (.s 18) false, gd := some (188, false) },
    { op := .iaddrS 191 3 (.s 189) (.s 190), gd := some (188, false) },
    { op := .faddr 192 1 (.s 191), gd := some (188, false) },
    { op := .load 193 1 false (.s 192), gd := some (188, false), blk := some 99999 },
    { op := .mov 194 (.s 4) false, gd := some (188, false) },
    { op := .mov 195 (.s 18) false, gd := some (188, false) },
    { op := .iaddrS 196 3 (.s 194) (.s 195), gd := some (188, false) },
    { op := .faddr 197 1 (.s 196), gd := some (188, false) },
    { op := .load 198 1 false (.s 197), gd := some (188, false), blk := some 99999 },
    { op := .bin 199 .neq (.s 193) (.s 198), gd := some (188, false) },
    { op := .pick 200 (.s 188) (.c (.bool true)) (.s 199) }] (some [0, 0, 3, 7, 15, 0, 0, 96, 224, 480, 1023, 2047, 4095, 4095, 16383, 32767, 65535, 4095, 4095, 397311, 921599, 1970175, 4194303, 8388607]) true [4, 15, 16, 18, 200] [])
  (.cond (.s 200) (.seq (.region [{ op := .mov 2 (.c (.bool false)) false }] none false [2] [])
  .ret) (.skip [4, 15, 16, 18] []))))
  (.region [{ op := .mov 175 (.s 18) false },
    { op := .bin 176 .add (.s 175) (.c (.int .i64 1)) },
    { op := .mov 18 (.s 176) false }] none false [4, 15, 16, 18] [])))
def a4 : AFun := { n := 1, N := 208, res := [.tmp 2], body :=
  (.seq (.region [{ op := .mov 2 (.c (.bool false)) false }] none false [0] [])
  (.seq (.region [{ op := .mov 19 (.s 0) false },
    { op := .mov 20 (.s 0) false },
    { op := .len 21 true (.s 20) },
    { op := .mm 22 false (.s 21) (.c (.int .i64 4000)) },
    { op := .sliceS 23 (.s 19) none (some (.s 22)) },
    { op := .mov 3 (.s 23) false }] none false [3] [])
  (.seq (.region [{ op := .mov 25 (.s 3) false },
    { op := .call (some 26) 8 [(.s 25)] },
    { op := .mov 24 (.s 26) false },
    { op := .extract 27 (.s 24) 0 },
    { op := .extract 28 (.s 24) 1 },
    { op := .mov 4 (.s 27) true },
    { op := .mov 5 (.s 28) false }] none false [3, 4, 5] [])
  (.seq (.seq (.region [{ op := .mov 29 (.s 5) false },
    { op := .bin 30 .neq (.s 29) (.c (.int .i64 0)) }] none false [3, 4, 5, 30] [])
  (.cond (.s 30) (.seq (.region [{ op := .mov 31 (.s 5) false },
    { op := .bin 32 .eql (.s 31) (.c (.int .i64 80)) },
    { op := .mov 33 (.s 32) false },
    { op := .mov 34 (.s 4) true, gd := some (33, true) },
    { op := .len 35 false (.s 34), gd := some (33, true) },
    { op := .bin 36 .eql (.s 35) (.c (.int .i64 0)), gd := some (33, true) },
    { op := .pick 37 (.s 33) (.s 36) (.c (.bool false)) },
    { op := .mov 38 (.s 37) false },
    { op := .call (some 39) 7 [], gd := some (38, true) },
    { op := .pick 40 (.s 38) (.s 39) (.c (.bool false)) },
    { op := .mov 2 (.s 40) false }] none false [2] [])
  .ret) (.skip [3, 4] [])))
  (.seq (.region [{ op := .mov 6 (.c (.int .i64 0)) false }] none false [3, 4, 6] [])
  (.seq (.seq (.region [{ op := .mov 7 (.c (.int .i64 0)) false }] none false [3, 4, 6, 7] [])
  (.block 0 (.loop a4_l2)))
  (.seq (.seq (.region [{ op := .mov 134 (.s 6) false },
    { op := .mov 14 (.s 134) false }] none false [3, 4, 14] [])
  (.block 6 (.loop a4_l3)))
  (.seq (.region [{ op := .mov 151 (.s 4) false },
    { op := .call (some 152) 5 [(.s 151)] },
    { op := .mov 15 (.s 152) false }] none false [4, 15] [])
  (.seq (.seq (.region [{ op := .mov 153 (.s 15) false },
    { op := .len 154 true (.s 153) },
    { op := .bin 155 .gtr (.s 154) (.c (.int .i64 4000)) }] none false [4, 15, 155] [])
  (.cond (.s 155) (.seq (.region [{ op := .call (some 156) 7 [] },
    { op := .mov 2 (.s 156) false }] none false [2] [])
  .ret) (.skip [4, 15] [])))
  (.seq (.region [{ op := .mov 158 (.s 15) false },
    { op := .call (some 159) 8 [(.s 158)] },
    { op := .mov 157 (.s 159) false },
    { op := .extract 160 (.s 157) 0 },
    { op := .extract 161 (.s 157) 1 },
    { op := .mov 16 (.s 160) true },
    { op := .mov 17 (.s 161) false }] none false [4, 15, 16, 17] [])
  (.seq (.seq (.region [{ op := .mov 162 (.s 17) false },
    { op := .bin 163 .neq (.s 162) (.c (.int .i64 0)) },
    { op := .mov 164 (.s 163) false },
    { op := .mov 165 (.s 16) false, gd := some (164, false) },
    { op := .len 166 false (.s 165), gd := some (164, false) },
    { op := .mov 167 (.s 4) false, gd := some (164, false) },
    { op := .len 168 false (.s 167), gd := some (164, false) },
    { op := .bin 169 .neq (.s 166) (.s 168), gd := some (164, false) },
    { op := .pick 170 (.s 164) (.c (.bool true)) (.s 169) }] none false [4, 15, 16, 170] [])
  (.cond (.s 170) (.seq (.region [{ op := .mov 2 (.c (.bool false)) false }] none false [2] [])
  .ret) (.skip [4, 15, 16] [])))
  (.seq (.seq (.region [{ op := .mov 18 (.c (.int .i64 0)) false }] none false [4, 15, 16, 18] [])
  (.block 8 (.loop a4_l4)))
  (.seq (.region [{ op := .mov 201 (.s 16) true },
    { op := .call (some 202) 5 [(.s 201)] },
    { op := .mov 203 (.s 15) false },
    { op := .bin 204 .eql (.s 202) (.s 203) },
    { op := .mov 205 (.s 204) false },
    { op := .call (some 206) 7 [], gd := some (205, true) },
    { op := .pick 207 (.s 205) (.s 206) (.c (.bool false)) },
    { op := .mov 2 (.s 207) false }] none false [2] [])
  .ret))))))))))))) }

-- tactician/tacticianref08.Join
def a6_l0 : ACode := (.seq (.seq (.region [{ op := .mov 5 (.s 4) false },
    { op := .mov 6 (.s 0) false },
    { op := .len 7 false (.s 6) },
    { op := .bin 8 .lss (.s 5) (.s 7) }] none false [0, 3, 4, 8] [])
  (.cond (.s 8) (.skip [0, 3, 4] []) (.exit 0 [3] [])))
  (.seq (.block 1 (.seq (.seq (.region [{ op := .mov 11 (.s 4) false },
    { op := .bin 12 .gtr (.s 11) (.c (.int .i64 0)) }] none false [0, 3, 4, 12] [])
  (.cond (.s 12) (.region [{ op := .mov 13 (.s 3) true },
    { op := .bslice 14 1 5 [(.c (.int .u8 32))] },
    { op := .append 15 1 5 1 (.s 13) (.s 14) },
    { op := .mov 3 (.s 15) true }] none false [0, 3, 4] []) (.skip [0, 3, 4] [])))
  (.region [{ op := .mov 16 (.s 3) true },
    { op := .mov 17 (.s 0) false },
    { op := .mov 18 (.s 4) false },
    { op := .iaddrS 19 1 (.s 17) (.s 18) },
    { op := .load 20 1 false (.s 19) },
    { op := .append 21 1 5 1 (.s 16) (.s 20) },
    { op := .mov 3 (.s 21) true }] none false [0, 3, 4] [])))
  (.region [{ op := .mov 9 (.s 4) false },
    { op := .bin 10 .add (.s 9) (.c (.int .i64 1)) },
    { op := .mov 4 (.s 10) false }] none false [0, 3, 4] [])))
def a6 : AFun := { n := 1, N := 24, res := [.tmp 2], body :=
  (.seq (.region [{ op := .mov 2 (.c (.str ⟨#[]⟩)) false }] none false [0] [])
  (.seq (.region [{ op := .nils 3 1 5 }] none false [0, 3] [])
  (.seq (.seq (.region [{ op := .mov 4 (.c (.int .i64 0)) false }] none false [0, 3, 4] [])
  (.block 0 (.loop a6_l0)))
  (.seq (.region [{ op := .mov 22 (.s 3) true },
    { op := .convB 23 (.s 22) },
    { op := .mov 2 (.s 23) false }] none false [2] [])
  .ret)))) }

-- tactician/tacticianlaw08.awake
def a7 : AFun := { n := 0, N := 28, res := [.tmp 0], body :=
  (.seq (.region [{ op := .mov 0 (.c (.bool false)) false }] none false [] [])
  (.seq (.region [{ op := .call (some 6) 8 [(.c (.str ⟨#[83, 101, 108, 101, 99, 116, 32, 97, 60, 61, 49, 48]⟩))] },
    { op := .mov 5 (.s 6) false },
    { op := .extract 7 (.s 5) 0 },
    { op := .extract 8 (.s 5) 1 },
    { op := .mov 1 (.s 7) true },
    { op := .mov 2 (.s 8) false }] none false [1, 2] [])
  (.seq (.region [{ op := .call (some 10) 8 [(.c (.str ⟨#[48, 49]⟩))] },
    { op := .mov 9 (.s 10) false },
    { op := .extract 11 (.s 9) 0 },
    { op := .extract 12 (.s 9) 1 },
    { op := .mov 3 (.s 11) true },
    { op := .mov 4 (.s 12) false }] none false [1, 2, 4] [])
  (.seq (.region [{ op := .mov 13 (.s 2) false },
    { op := .bin 14 .eql (.s 13) (.c (.int .i64 0)) },
    { op := .mov 15 (.s 14) false },
    { op := .mov 16 (.s 1) true, gd := some (15, true) },
    { op := .build 17 [.int .i64 0, .str ⟨#[]⟩, .int .i64 0] [(0, 1, (.c (.int .i64 1))), (1, 1, (.c (.str ⟨#[115, 101, 108, 101, 99, 116]⟩)))], gd := some (15, true) },
    { op := .build 18 [.int .i64 0, .str ⟨#[]⟩, .int .i64 0] [(0, 1, (.c (.int .i64 2))), (1, 1, (.c (.str ⟨#[97]⟩))), (2, 1, (.c (.int .i64 7)))], gd := some (15, true) },
    { op := .build 19 [.int .i64 0, .str ⟨#[]⟩, .int .i64 0] [(0, 1, (.c (.int .i64 5))), (1, 1, (.c (.str ⟨#[60, 61]⟩))), (2, 1, (.c (.int .i64 8)))], gd := some (15, true) },
    { op := .build 20 [.int .i64 0, .str ⟨#[]⟩, .int .i64 0] [(0, 1, (.c (.int .i64 3))), (1, 1, (.c (.str ⟨#[49, 48]⟩))), (2, 1, (.c (.int .i64 10)))], gd := some (15, true) },
    { op := .bslice 21 3 42 [(.s 17), (.s 18), (.s 19), (.s 20)], gd := some (15, true) },
    { op := .call (some 22) 11 [(.s 16), (.s 21)], gd := some (15, true) },
    { op := .pick 23 (.s 15) (.s 22) (.c (.bool false)) },
    { op := .mov 24 (.s 23) false },
    { op := .mov 25 (.s 4) false, gd := some (24, true) },
    { op := .bin 26 .eql (.s 25) (.c (.int .i64 80)), gd := some (24, true) },
    { op := .pick 27 (.s 24) (.s 26) (.c (.bool false)) },
    { op := .mov 0 (.s 27) false }] none false [0] [])
  .ret)))) }

-- slices.Values[[]tactician/token.Token,tactician/token.Token]
def a9 : AFun := { n := 1, N := 4, res := [.tmp 2], body :=
  (.seq (.region [{ op := .box 1 false (.s 0) },
    { op := .mov 2 (.c (.nilfn)) false }] none false [1] [1])
  (.seq (.freeze 1 (.region [{ op := .mkfn 3 (.func 13) [] [(.s 1)] },
    { op := .mov 2 (.s 3) false }] none false [2] []))
  .ret)) }

-- tactician/tacticianlaw08.same
def a11_l0 : ACode := (.seq (.seq (.region [{ op := .mov 6 (.s 5) false },
    { op := .mov 7 (.s 0) false },
    { op := .len 8 false (.s 7) },
    { op := .bin 9 .lss (.s 6) (.s 8) },
    { op := .mov 10 (.s 9) false },
    { op := .mov 11 (.s 5) false, gd := some (10, true) },
    { op := .mov 12 (.s 1) false, gd := some (10, true) },
    { op := .len 13 false (.s 12), gd := some (10, true) },
    { op := .bin 14 .lss (.s 11) (.s 13), gd := some (10, true) },
    { op := .pick 15 (.s 10) (.s 14) (.c (.bool false)) }] none false [0, 1, 5, 15] [])
  (.cond (.s 15) (.skip [0, 1, 5] []) (.exit 0 [0, 1] [])))
  (.seq (.block 1 (.seq (.region [{ op := .mov 18 (.s 0) false },
    { op := .mov 19 (.s 5) false },
    { op := .iaddrS 20 3 (.s 18) (.s 19) },
    { op := .faddr 21 0 (.s 20) },
    { op := .load 22 1 false (.s 21), blk := some 99999 },
    { op := .mov 23 (.s 1) false },
    { op := .mov 24 (.s 5) false },
    { op := .iaddrS 25 3 (.s 23) (.s 24) },
    { op := .faddr 26 0 (.s 25) },
    { op := .load 27 1 false (.s 26), blk := some 99999 },
    { op := .bin 28 .neq (.s 22) (.s 27) },
    { op := .mov 29 (.s 28) false },
    { op := .mov 30 (.s 0) false, gd := some (29, false) },
    { op := .mov 31 (.s 5) false, gd := some (29, false) },
    { op := .iaddrS 32 3 (.s 30) (.s 31), gd := some (29, false) },
    { op := .faddr 33 1 (.s 32), gd := some (29, false) },
    { op := .load 34 1 false (.s 33), gd := some (29, false), blk := some 99999 },
    { op := .mov 35 (.s 1) false, gd := some (29, false) },
    { op := .mov 36 (.s 5) false, gd := some (29, false) },
    { op := .iaddrS 37 3 (.s 35) (.s 36), gd := some (29, false) },
    { op := .faddr 38 1 (.s 37), gd := some (29, false) },
    { op := .load 39 1 false (.s 38), gd := some (29, false), blk := some 99999 },
    { op := .bin 40 .neq (.s 34) (.s 39), gd := some (29, false) },
    { op := .pick 41 (.s 29) (.c (.bool true)) (.s 40) },
    { op := .mov 42 (.s 41) false },
    { op := .mov 43 (.s 0) false, gd := some (42, false) },
    { op := .mov 44 (.s 5) false, gd := some (42, false) },
    { op := .iaddrS 45 3 (.s 43) (.s 44), gd := some (42, false) },
    { op := .faddr 46 2 (.s 45), gd := some (42, false) },
    { op := .load 47 1 false (.s 46), gd := some (42, false), blk := some 99999 },
    { op := .mov 48 (.s 1) false, gd := some (42, false) },
    { op := .mov 49 (.s 5) false, gd := some (42, false) },
    { op := .iaddrS 50 3 (.s 48) (.s 49), gd := some (42, false) },
    { op := .faddr 51 2 (.s 50), gd := some (42, false) },
    { op := .load 52 1 false (.s 51), gd := some (42, false), blk := some 99999 },
    { op := .bin 53 .neq (.s 47) (.s 52), gd := some (42, false) },
    { op := .pick 54 (.s 42) (.c (.bool true)) (.s 53) }] (some [0, 0, 3, 7, 15, 0, 0, 96, 224, 480, 1023, 2047, 4095, 4095, 16383, 32767, 65535, 4095, 4095, 397311, 921599, 1970175, 4194303, 8388607, 16777215, 33554431, 33554431, 134217727, 268435455, 536870911, 33554431, 33554431, 3254779903, 7549747199, 16139681791, 34359738367, 68719476735]) true [0, 1, 5, 54] [])
  (.cond (.s 54) (.seq (.region [{ op := .mov 4 (.c (.bool false)) false }] none false [4] [])
  .ret) (.skip [0, 1, 5] []))))
  (.region [{ op := .mov 16 (.s 5) false },
    { op := .bin 17 .add (.s 16) (.c (.int .i64 1)) },
    { op := .mov 5 (.s 17) false }] none false [0, 1, 5] [])))
def a11 : AFun := { n := 2, N := 60, res := [.tmp 4], body :=
  (.seq (.region [{ op := .mov 4 (.c (.bool false)) false }] none false [0, 1] [])
  (.seq (.seq (.region [{ op := .mov 5 (.c (.int .i64 0)) false }] none false [0, 1, 5] [])
  (.block 0 (.loop a11_l0)))
  (.seq (.region [{ op := .mov 55 (.s 0) true },
    { op := .len 56 false (.s 55) },
    { op := .mov 57 (.s 1) true },
    { op := .len 58 false (.s 57) },
    { op := .bin 59 .eql (.s 56) (.s 58) },
    { op := .mov 4 (.s 59) false }] none false [4] [])
  .ret))) }

-- tactician/token.tokens
def a12 : AFun := { n := 1, N := 4, res := [.tmp 2], body :=
  (.seq (.region [{ op := .box 1 false (.s 0) },
    { op := .mov 2 (.c (.nilfn)) false }] none false [1] [1])
  (.seq (.freeze 1 (.region [{ op := .mkfn 3 (.func 17) [] [(.s 1)] },
    { op := .mov 2 (.s 3) false }] none false [2] []))
  .ret)) }

-- slices.Values[[]tactician/token.Token,tactician/token.Token]$1
def a13_l0 : ACode := (.seq (.region [{ op := .bin 8 .lss (.s 7) (.s 6) }] none false [0, 5, 6, 7, 8] [])
  (.seq (.cond (.s 8) (.skip [0, 5, 6, 7] []) (.exit 0 [] []))
  (.seq (.block 1 (.seq (.region [{ op := .iaddrS 9 3 (.s 5) (.s 7) },
    { op := .load 10 3 true (.s 9) },
    { op := .alloc 4 false [.int .i64 0, .str ⟨#[]⟩, .int .i64 0] [] },
    { op := .store (.s 4) (.s 10) 3 false }] none false [0, 4, 5, 6, 7] [4])
  (.seq (.region [{ op := .mov 11 (.s 0) false },
    { op := .load 12 3 true (.s 4) },
    { op := .callv (some 13) (.s 11) [(.s 12)] },
    { op := .un 14 .not (.s 13) }] none false [0, 5, 6, 7, 14] [])
  (.cond (.s 14) .ret (.skip [0, 5, 6, 7] [])))))
  (.region [{ op := .bin 15 .add (.s 7) (.c (.int .i64 1)) },
    { op := .mov 7 (.s 15) false }] none false [0, 5, 6, 7] []))))
def a13 : AFun := { n := 2, N := 16, res := [], body :=
  (.seq (.region [{ op := .load 5 1 false (.s 1) },
    { op := .len 6 false (.s 5) },
    { op := .mov 7 (.c (.int .i64 0)) false }] none false [0, 5, 6, 7] [])
  (.block 0 (.loop a13_l0))) }

-- tactician/token.tokens$1
def a17_l0 : ACode := (.seq (.seq (.region [{ op := .mov 8 (.s 4) false },
    { op := .load 9 1 false (.s 1) },
    { op := .len 10 true (.s 9) },
    { op := .bin 11 .lss (.s 8) (.s 10) }] none false [0, 1, 3, 4, 11] [])
  (.cond (.s 11) (.skip [0, 1, 3, 4] []) (.exit 0 [] [])))
  (.block 1 (.seq (.seq (.region [{ op := .load 12 1 false (.s 1) },
    { op := .mov 13 (.s 4) false },
    { op := .idxS 14 (.s 12) (.s 13) }] none false [0, 1, 3, 4, 14] [])
  (.block 2 (.seq (.seq (.region [{ op := .bin 16 .eql (.s 14) (.c (.int .u8 32)) },
    { op := .mov 15 (.s 16) false }] none false [0, 1, 3, 4, 14, 15] [])
  (.cond (.s 15) (.skip [0, 1, 3, 4, 15] []) (.region [{ op := .bin 17 .eql (.s 14) (.c (.int .u8 10)) },
    { op := .mov 15 (.s 17) false }] none false [0, 1, 3, 4, 15] [])))
  (.cond (.s 15) (.seq (.region [{ op := .mov 18 (.s 4) false },
    { op := .bin 19 .add (.s 18) (.c (.int .i64 1)) },
    { op := .mov 4 (.s 19) false }] none false [0, 1, 3, 4] [])
  (.exit 1 [0, 1, 3, 4] [])) (.skip [0, 1, 3, 4] [])))))
  (.seq (.region [{ op := .load 21 1 false (.s 1) },
    { op := .mov 22 (.s 4) false },
    { op := .sliceS 23 (.s 21) (some (.s 22)) none },
    { op := .mov 24 (.s 3) false },
    { op := .call (some 25) 19 [(.s 23), (.s 24)] },
    { op := .mov 20 (.s 25) false },
    { op := .extract 26 (.s 20) 0 },
    { op := .extract 27 (.s 20) 1 },
    { op := .alloc 5 false [.int .i64 0, .str ⟨#[]⟩, .int .i64 0] [] },
    { op := .store (.s 5) (.s 26) 3 false },
    { op := .mov 6 (.s 27) false }] none false [0, 1, 3, 4, 5, 6] [5])
  (.seq (.region [{ op := .mov 28 (.s 4) false },
    { op := .faddr 29 2 (.s 5) },
    { op := .store (.s 29) (.s 28) 1 false }] none false [0, 1, 3, 4, 5, 6] [5])
  (.seq (.seq (.region [{ op := .mov 30 (.s 0) false },
    { op := .load 31 3 true (.s 5) },
    { op := .mov 32 (.s 6) false },
    { op := .bin 33 .gtr (.s 32) (.c (.int .i64 0)) },
    { op := .callv (some 34) (.s 30) [(.s 31), (.s 33)] },
    { op := .un 35 .not (.s 34) },
    { op := .mov 36 (.s 35) false },
    { op := .mov 37 (.s 6) false, gd := some (36, false) },
    { op := .bin 38 .eql (.s 37) (.c (.int .i64 0)), gd := some (36, false) },
    { op := .pick 39 (.s 36) (.c (.bool true)) (.s 38) }] none false [0, 1, 3, 4, 6, 39] [])
  (.cond (.s 39) (.exit 0 [] []) (.skip [0, 1, 3, 4, 6] [])))
  (.region [{ op := .mov 40 (.s 4) false },
    { op := .mov 41 (.s 6) false },
    { op := .bin 42 .add (.s 40) (.s 41) },
    { op := .mov 4 (.s 42) false }] none false [0, 1, 3, 4] [])))))))
def a17 : AFun := { n := 2, N := 43, res := [], body :=
  (.scope (.seq (.region [{ op := .call (some 7) 18 [] },
    { op := .mov 3 (.s 7) false }] none false [0, 1, 3] [])
  (.seq (.region [{ op := .mov 4 (.c (.int .i64 0)) false }] none false [0, 1, 3, 4] [])
  (.seq .label
  (.block 0 (.loop a17_l0)))))) }

-- tactician/lexicon.Set
def a18_l0 : ACode := (.seq (.region [{ op := .bin 8 .lss (.s 7) (.s 6) }] none false [1, 5, 6, 7, 8] [])
  (.seq (.cond (.s 8) (.skip [1, 5, 6, 7] []) (.exit 0 [1] []))
  (.seq (.block 1 (.seq (.region [{ op := .iaddrS 9 1 (.s 5) (.s 7) },
    { op := .load 10 1 false (.s 9) },
    { op := .mov 3 (.s 10) false }] none false [1, 3, 5, 6, 7] [])
  (.region [{ op := .mov 11 (.s 1) false },
    { op := .mov 12 (.s 3) false },
    { op := .mapUpd none (.s 11) (.s 12) (.c (.bool true)) }] none false [1, 5, 6, 7] [])))
  (.region [{ op := .bin 13 .add (.s 7) (.c (.int .i64 1)) },
    { op := .mov 7 (.s 13) false }] none false [1, 5, 6, 7] []))))
def a18 : AFun := { n := 0, N := 15, res := [.tmp 0], keepB := 1, body :=
  (.seq (.region [{ op := .mov 0 (.c (.nilmap)) false }] none false [] [])
  (.seq (.region [{ op := .makeMap 4 },
    { op := .mov 1 (.s 4) false }] none false [1] [])
  (.seq (.seq (.region [{ op := .call (some 5) 22 [] },
    { op := .len 6 false (.s 5) },
    { op := .mov 7 (.c (.int .i64 0)) false }] none false [1, 5, 6, 7] [])
  (.block 0 (.loop a18_l0)))
  (.seq (.region [{ op := .mov 14 (.s 1) false },
    { op := .mov 0 (.s 14) false }] none false [0] [])
  .ret)))) }

-- tactician/token.next
def a19_l0 : ACode := (.seq (.region [{ op := .bin 19 .lss (.s 18) (.c (.int .i64 17)) }] none false [0, 1, 4, 17, 18, 19] [4])
  (.seq (.cond (.s 19) (.skip [0, 1, 4, 17, 18] [4]) (.exit 0 [0, 1, 4] [4]))
  (.seq (.block 1 (.seq (.region [{ op := .idxA 20 17 1 false (.s 17) (.s 18) },
    { op := .mov 8 (.s 20) false }] none false [0, 1, 4, 8, 17, 18] [4])
  (.seq (.region [{ op := .mov 21 (.s 0) false },
    { op := .mov 22 (.s 8) false },
    { op := .call (some 23) 23 [(.s 21), (.s 22)] }] none false [0, 1, 4, 8, 17, 18, 23] [4])
  (.cond (.s 23) (.seq (.region [{ op := .mov 24 (.s 8) false },
    { op := .build 25 [.int .i64 0, .str ⟨#[]⟩, .int .i64 0] [(0, 1, (.c (.int .i64 5))), (1, 1, (.s 24))] },
    { op := .mov 26 (.s 8) false },
    { op := .len 27 true (.s 26) },
    { op := .store (.s 4) (.s 25) 3 false },
    { op := .mov 5 (.s 27) false }] none false [4, 5] [4])
  .ret) (.skip [0, 1, 4, 17, 18] [4])))))
  (.region [{ op := .bin 28 .add (.s 18) (.c (.int .i64 1)) },
    { op := .mov 18 (.s 28) false }] none false [0, 1, 4, 17, 18] [4]))))
def a19_l1 : ACode := (.seq (.seq (.region [{ op := .mov 53 (.s 12) false },
    { op := .mov 54 (.s 0) false },
    { op := .len 55 true (.s 54) },
    { op := .bin 56 .lss (.s 53) (.s 55) },
    { op := .mov 57 (.s 56) false },
    { op := .mov 58 (.s 0) false, gd := some (57, true) },
    { op := .mov 59 (.s 12) false, gd := some (57, true) },
    { op := .idxS 60 (.s 58) (.s 59), gd := some (57, true) },
    { op := .call (some 61) 27 [(.s 60)], gd := some (57, true) },
    { op := .call (some 62) 26 [(.s 61)], gd := some (57, true) },
    { op := .pick 63 (.s 57) (.s 62) (.c (.bool false)) }] none false [0, 1, 4, 12, 63] [4])
  (.cond (.s 63) (.skip [0, 1, 4, 12] [4]) (.exit 2 [0, 1, 4, 12] [4])))
  (.block 3 (.region [{ op := .mov 64 (.s 12) false },
    { op := .bin 65 .add (.s 64) (.c (.int .i64 1)) },
    { op := .mov 12 (.s 65) false }] none false [0, 1, 4, 12] [4])))
def a19 : AFun := { n := 2, N := 110, res := [.cell 4 3 true, .tmp 5], body :=
  (.seq (.region [{ op := .alloc 4 false [.int .i64 0, .str ⟨#[]⟩, .int .i64 0] [] },
    { op := .mov 5 (.c (.int .i64 0)) false }] none false [0, 1, 4] [4])
  (.seq (.region [{ op := .build 16 (List.replicate 17 (.str ⟨#[]⟩)) [(0, 1, (.c (.str ⟨#[60, 61]⟩))), (1, 1, (.c (.str ⟨#[62, 61]⟩))), (2, 1, (.c (.str ⟨#[60, 62]⟩))), (3, 1, (.c (.str ⟨#[124, 124]⟩))), (4, 1, (.c (.str ⟨#[40]⟩))), (5, 1, (.c (.str ⟨#[41]⟩))), (6, 1, (.c (.str ⟨#[44]⟩))), (7, 1, (.c (.str ⟨#[46]⟩))), (8, 1, (.c (.str ⟨#[42]⟩))), (9, 1, (.c (.str ⟨#[43]⟩))), (10, 1, (.c (.str ⟨#[45]⟩))), (11, 1, (.c (.str ⟨#[47]⟩))), (12, 1, (.c (.str ⟨#[37]⟩))), (13, 1, (.c (.str ⟨#[61]⟩))), (14, 1, (.c (.str ⟨#[60]⟩))), (15, 1, (.c (.str ⟨#[62]⟩))), (16, 1, (.c (.str ⟨#[59]⟩)))] },
    { op := .alloc 6 false (List.replicate 17 (.str ⟨#[]⟩)) [] },
    { op := .store (.s 6) (.s 16) 17 false }] none false [0, 1, 4, 6] [4, 6])
  (.seq (.seq (.region [{ op := .load 17 17 true (.s 6) },
    { op := .mov 18 (.c (.int .i64 0)) false }] none false [0, 1, 4, 17, 18] [4])
  (.block 0 (.loop a19_l0)))
  (.seq (.seq (.region [{ op := .mov 29 (.s 0) false },
    { op := .idxS 30 (.s 29) (.c (.int .i64 0)) },
    { op := .bin 31 .eql (.s 30) (.c (.int .u8 39)) }] none false [0, 1, 4, 31] [4])
  (.cond (.s 31) (.seq (.region [{ op := .mov 32 (.s 0) false },
    { op := .call (some 33) 24 [(.s 32)] },
    { op := .mov 9 (.s 33) false }] none false [0, 4, 9] [4])
  (.seq (.seq (.region [{ op := .mov 35 (.s 0) false },
    { op := .mov 36 (.s 9) false },
    { op := .sliceS 37 (.s 35) none (some (.s 36)) },
    { op := .call (some 38) 25 [(.s 37)] },
    { op := .mov 34 (.s 38) false },
    { op := .extract 39 (.s 34) 0 },
    { op := .extract 40 (.s 34) 1 },
    { op := .alloc 10 false [.int .i64 0, .int .i64 0, .str ⟨#[]⟩] [] },
    { op := .store (.s 10) (.s 39) 3 false },
    { op := .mov 11 (.s 40) false }] none false [0, 4, 9, 11] [4])
  (.seq (.region [{ op := .mov 41 (.s 9) false },
    { op := .bin 42 .eql (.s 41) (.c (.int .i64 0)) },
    { op := .mov 43 (.s 42) false },
    { op := .mov 44 (.s 11) false, gd := some (43, false) },
    { op := .un 45 .not (.s 44), gd := some (43, false) },
    { op := .pick 46 (.s 43) (.c (.bool true)) (.s 45) }] none false [0, 4, 9, 46] [4])
  (.cond (.s 46) (.seq (.region [{ op := .build 47 [.int .i64 0, .str ⟨#[]⟩, .int .i64 0] [] },
    { op := .store (.s 4) (.s 47) 3 false },
    { op := .mov 5 (.c (.int .i64 0)) false }] none false [4, 5] [4])
  .ret) (.skip [0, 4, 9] [4]))))
  (.seq (.region [{ op := .mov 48 (.s 0) false },
    { op := .mov 49 (.s 9) false },
    { op := .sliceS 50 (.s 48) none (some (.s 49)) },
    { op := .build 51 [.int .i64 0, .str ⟨#[]⟩, .int .i64 0] [(0, 1, (.c (.int .i64 4))), (1, 1, (.s 50))] },
    { op := .mov 52 (.s 9) false },
    { op := .store (.s 4) (.s 51) 3 false },
    { op := .mov 5 (.s 52) false }] none false [4, 5] [4])
  .ret))) (.skip [0, 1, 4] [4])))
  (.seq (.region [{ op := .mov 12 (.c (.int .i64 0)) false }] none false [0, 1, 4, 12] [4])
  (.seq (.block 2 (.loop a19_l1))
  (.seq (.region [{ op := .mov 66 (.s 0) false },
    { op := .mov 67 (.s 12) false },
    { op := .sliceS 68 (.s 66) none (some (.s 67)) },
    { op := .call (some 69) 28 [(.c (.clos (.func 29) [] [])), (.s 68)] },
    { op := .build 70 [.int .i64 0, .str ⟨#[]⟩, .int .i64 0] [(0, 1, (.c (.int .i64 2))), (1, 1, (.s 69))] },
    { op := .alloc 13 false [.int .i64 0, .str ⟨#[]⟩, .int .i64 0] [] },
    { op := .store (.s 13) (.s 70) 3 false }] none false [0, 1, 4, 12, 13] [4, 13])
  (.seq (.block 4 (.seq (.region [{ op := .mov 72 (.s 12) false },
    { op := .bin 73 .eql (.s 72) (.c (.int .i64 0)) },
    { op := .mov 71 (.s 73) false }] none false [0, 1, 4, 12, 13, 71] [4, 13])
  (.cond (.s 71) (.seq (.region [{ op := .build 74 [.int .i64 0, .str ⟨#[]⟩, .int .i64 0] [] },
    { op := .store (.s 4) (.s 74) 3 false },
    { op := .mov 5 (.c (.int .i64 0)) false }] none false [4, 5] [4])
  .ret) (.seq (.region [{ op := .mov 76 (.s 0) false },
    { op := .idxS 77 (.s 76) (.c (.int .i64 0)) },
    { op := .call (some 78) 30 [(.s 77)] },
    { op := .mov 75 (.s 78) false }] none false [1, 4, 12, 13, 75] [4, 13])
  (.cond (.s 75) (.seq (.region [{ op := .faddr 80 1 (.s 13) },
    { op := .load 81 1 false (.s 80) },
    { op := .call (some 82) 31 [(.s 81), (.c (.int .i64 10)), (.c (.int .i64 64))] },
    { op := .mov 79 (.s 82) false },
    { op := .extract 83 (.s 79) 0 },
    { op := .extract 84 (.s 79) 1 },
    { op := .mov 14 (.s 83) false },
    { op := .mov 15 (.s 84) false }] none false [4, 12, 13, 14, 15] [4, 13])
  (.seq (.seq (.region [{ op := .mov 85 (.s 15) false },
    { op := .eqnil 86 true 2 (.s 85) },
    { op := .mov 87 (.s 86) false },
    { op := .mov 88 (.s 14) false, gd := some (87, false) },
    { op := .call (some 89) 32 [(.s 88), (.c (.int .i64 10))], gd := some (87, false) },
    { op := .faddr 90 1 (.s 13), gd := some (87, false) },
    { op := .load 91 1 false (.s 90), gd := some (87, false), blk := some 13 },
    { op := .bin 92 .neq (.s 89) (.s 91), gd := some (87, false) },
    { op := .pick 93 (.s 87) (.c (.bool true)) (.s 92) }] (some [0, 1, 3, 7, 15, 7, 39, 127, 255]) true [4, 12, 13, 93] [4, 13])
  (.cond (.s 93) (.seq (.region [{ op := .build 94 [.int .i64 0, .str ⟨#[]⟩, .int .i64 0] [] },
    { op := .store (.s 4) (.s 94) 3 false },
    { op := .mov 5 (.c (.int .i64 0)) false }] none false [4, 5] [4])
  .ret) (.skip [4, 12, 13] [4, 13])))
  (.region [{ op := .faddr 95 0 (.s 13) },
    { op := .store (.s 95) (.c (.int .i64 3)) 1 false }] none false [4, 12, 13] [4, 13]))) (.seq (.region [{ op := .mov 97 (.s 1) false },
    { op := .faddr 98 1 (.s 13) },
    { op := .load 99 1 false (.s 98) },
    { op := .lookup 100 false none (.bool false) (.s 97) (.s 99) },
    { op := .mov 96 (.s 100) false }] none false [4, 12, 13, 96] [4, 13])
  (.cond (.s 96) (.region [{ op := .faddr 101 0 (.s 13) },
    { op := .store (.s 101) (.c (.int .i64 1)) 1 false }] none false [4, 12, 13] [4, 13]) (.seq (.region [{ op := .faddr 103 1 (.s 13) },
    { op := .load 104 1 false (.s 103) },
    { op := .call (some 105) 33 [(.s 104)] },
    { op := .un 106 .not (.s 105) },
    { op := .mov 102 (.s 106) false }] none false [4, 12, 13, 102] [4, 13])
  (.cond (.s 102) (.seq (.region [{ op := .build 107 [.int .i64 0, .str ⟨#[]⟩, .int .i64 0] [] },
    { op := .store (.s 4) (.s 107) 3 false },
    { op := .mov 5 (.c (.int .i64 0)) false }] none false [4, 5] [4])
  .ret) (.skip [4, 12, 13] [4, 13]))))))))))
  (.seq (.region [{ op := .load 108 3 true (.s 13) },
    { op := .mov 109 (.s 12) false },
    { op := .store (.s 4) (.s 108) 3 false },
    { op := .mov 5 (.s 109) false }] none false [4, 5] [4])
  .ret))))))))) }

-- tactician/lexicon.Words
def a22 : AFun := { n := 0, N := 2, res := [.tmp 0], body :=
  (.seq (.region [{ op := .nils 0 1 9 }] none false [] [])
  (.seq (.region [{ op := .call (some 1) 36 [(.c (.str ⟨#[97, 108, 108, 32, 97, 110, 100, 32, 97, 115, 32, 97, 115, 99, 32, 98, 101, 116, 119, 101, 101, 110, 32, 98, 121, 32, 99, 97, 115, 101, 32, 99, 114, 111, 115, 115, 32, 100, 101, 115, 99, 32, 100, 105, 115, 116, 105, 110, 99, 116, 32, 101, 108, 115, 101, 32, 101, 110, 100, 32, 101, 120, 99, 101, 112, 116, 32, 101, 120, 105, 115, 116, 115, 32, 102, 97, 108, 115, 101, 32, 102, 114, 111, 109, 32, 102, 117, 108, 108, 32, 103, 114, 111, 117, 112, 32, 104, 97, 118, 105, 110, 103, 32, 105, 110, 32, 105, 110, 110, 101, 114, 32, 105, 110, 116, 101, 114, 115, 101, 99, 116, 32, 105, 115, 32, 106, 111, 105, 110, 32, 108, 101, 102, 116, 32, 108, 105, 109, 105, 116, 32, 110, 111, 116, 32, 110, 117, 108, 108, 32, 111, 102, 102, 115, 101, 116, 32, 111, 110, 32, 111, 114, 32, 111, 114, 100, 101, 114, 32, 111, 117, 116, 101, 114, 32, 114, 105, 103, 104, 116, 32, 115, 101, 108, 101, 99, 116, 32, 116, 104, 101, 110, 32, 116, 114, 117, 101, 32, 117, 110, 105, 111, 110, 32, 118, 97, 108, 117, 101, 115, 32, 119, 104, 101, 110, 32, 119, 104, 101, 114, 101]⟩))] },
    { op := .mov 0 (.s 1) true }] none false [0] [])
  .ret)) }

-- strings.HasPrefix
def a23 : AFun := { n := 2, N := 8, res := [.tmp 4], body :=
  (.seq (.region [{ op := .mov 4 (.c (.bool false)) false }] none false [0, 1] [])
  (.seq (.region [{ op := .mov 5 (.s 0) false },
    { op := .mov 6 (.s 1) false },
    { op := .call (some 7) 37 [(.s 5), (.s 6)] },
    { op := .mov 4 (.s 7) false }] none false [4] [])
  .ret)) }

-- tactician/token.quoted
def a24_l0 : ACode := (.seq (.seq (.region [{ op := .mov 4 (.s 3) false },
    { op := .mov 5 (.s 0) false },
    { op := .len 6 true (.s 5) },
    { op := .bin 7 .lss (.s 4) (.s 6) }] none false [0, 3, 7] [])
  (.cond (.s 7) (.skip [0, 3] []) (.exit 0 [] [])))
  (.seq (.block 1 (.seq (.seq (.region [{ op := .mov 10 (.s 0) false },
    { op := .mov 11 (.s 3) false },
    { op := .idxS 12 (.s 10) (.s 11) },
    { op := .bin 13 .neq (.s 12) (.c (.int .u8 39)) }] none false [0, 3, 13] [])
  (.cond (.s 13) (.exit 1 [0, 3] []) (.skip [0, 3] [])))
  (.seq (.seq (.region [{ op := .mov 14 (.s 3) false },
    { op := .bin 15 .add (.s 14) (.c (.int .i64 1)) },
    { op := .mov 16 (.s 0) false },
    { op := .len 17 true (.s 16) },
    { op := .bin 18 .lss (.s 15) (.s 17) },
    { op := .mov 19 (.s 18) false },
    { op := .mov 20 (.s 0) false, gd := some (19, true) },
    { op := .mov 21 (.s 3) false, gd := some (19, true) },
    { op := .bin 22 .add (.s 21) (.c (.int .i64 1)), gd := some (19, true) },
    { op := .idxS 23 (.s 20) (.s 22), gd := some (19, true) },
    { op := .bin 24 .eql (.s 23) (.c (.int .u8 39)), gd := some (19, true) },
    { op := .pick 25 (.s 19) (.s 24) (.c (.bool false)) }] none false [0, 3, 25] [])
  (.cond (.s 25) (.seq (.region [{ op := .mov 26 (.s 3) false },
    { op := .bin 27 .add (.s 26) (.c (.int .i64 1)) },
    { op := .mov 3 (.s 27) false }] none false [0, 3] [])
  (.exit 1 [0, 3] [])) (.skip [3] [])))
  (.seq (.region [{ op := .mov 28 (.s 3) false },
    { op := .bin 29 .add (.s 28) (.c (.int .i64 1)) },
    { op := .mov 2 (.s 29) false }] none false [2] [])
  .ret))))
  (.region [{ op := .mov 8 (.s 3) false },
    { op := .bin 9 .add (.s 8) (.c (.int .i64 1)) },
    { op := .mov 3 (.s 9) false }] none false [0, 3] [])))
def a24 : AFun := { n := 1, N := 30, res := [.tmp 2], body :=
  (.seq (.region [{ op := .mov 2 (.c (.int .i64 0)) false }] none false [0] [])
  (.seq (.seq (.region [{ op := .mov 3 (.c (.int .i64 1)) false }] none false [0, 3] [])
  (.block 0 (.loop a24_l0)))
  (.seq (.region [{ op := .mov 2 (.c (.int .i64 0)) false }] none false [2] [])
  .ret))) }

-- tactician/value.Read
def a25 : AFun := { n := 1, N := 63, res := [.cell 2 3 true, .tmp 3], body :=
  (.seq (.region [{ op := .alloc 2 false [.int .i64 0, .int .i64 0, .str ⟨#[]⟩] [] },
    { op := .mov 3 (.c (.bool false)) false }] none false [0, 2] [2])
  (.seq (.region [{ op := .alloc 4 false [.int .i64 0, .int .i64 0, .str ⟨#[]⟩] [] }] none false [0, 2, 4] [2, 4])
  (.seq (.block 0 (.seq (.region [{ op := .mov 18 (.s 0) false },
    { op := .bin 19 .eql (.s 18) (.c (.str ⟨#[110, 117, 108, 108]⟩)) },
    { op := .mov 17 (.s 19) false }] none false [0, 2, 4, 17] [2, 4])
  (.cond (.s 17) (.skip [0, 2, 4] [2, 4]) (.seq (.region [{ op := .mov 21 (.s 0) false },
    { op := .bin 22 .eql (.s 21) (.c (.str ⟨#[116, 114, 117, 101]⟩)) },
    { op := .mov 20 (.s 22) false }] none false [0, 2, 4, 20] [2, 4])
  (.cond (.s 20) (.region [{ op := .call (some 23) 38 [] },
    { op := .store (.s 4) (.s 23) 3 false }] none false [0, 2, 4] [2, 4]) (.seq (.region [{ op := .mov 25 (.s 0) false },
    { op := .bin 26 .eql (.s 25) (.c (.str ⟨#[102, 97, 108, 115, 101]⟩)) },
    { op := .mov 24 (.s 26) false }] none false [0, 2, 4, 24] [2, 4])
  (.cond (.s 24) (.region [{ op := .call (some 27) 39 [] },
    { op := .store (.s 4) (.s 27) 3 false }] none false [0, 2, 4] [2, 4]) (.seq (.region [{ op := .mov 29 (.s 0) false },
    { op := .len 30 true (.s 29) },
    { op := .bin 31 .gtr (.s 30) (.c (.int .i64 1)) },
    { op := .mov 32 (.s 31) false },
    { op := .mov 33 (.s 0) false, gd := some (32, true) },
    { op := .idxS 34 (.s 33) (.c (.int .i64 0)), gd := some (32, true) },
    { op := .bin 35 .eql (.s 34) (.c (.int .u8 39)), gd := some (32, true) },
    { op := .pick 36 (.s 32) (.s 35) (.c (.bool false)) },
    { op := .mov 37 (.s 36) false },
    { op := .mov 38 (.s 0) false, gd := some (37, true) },
    { op := .mov 39 (.s 0) false, gd := some (37, true) },
    { op := .len 40 true (.s 39), gd := some (37, true) },
    { op := .bin 41 .sub (.s 40) (.c (.int .i64 1)), gd := some (37, true) },
    { op := .idxS 42 (.s 38) (.s 41), gd := some (37, true) },
    { op := .bin 43 .eql (.s 42) (.c (.int .u8 39)), gd := some (37, true) },
    { op := .pick 44 (.s 37) (.s 43) (.c (.bool false)) },
    { op := .mov 28 (.s 44) false }] none false [0, 2, 4, 28] [2, 4])
  (.cond (.s 28) (.region [{ op := .mov 45 (.s 0) false },
    { op := .mov 46 (.s 0) false },
    { op := .len 47 true (.s 46) },
    { op := .bin 48 .sub (.s 47) (.c (.int .i64 1)) },
    { op := .sliceS 49 (.s 45) (some (.c (.int .i64 1))) (some (.s 48)) },
    { op := .call (some 50) 40 [(.s 49), (.c (.str ⟨#[39, 39]⟩)), (.c (.str ⟨#[39]⟩))] },
    { op := .build 51 [.int .i64 0, .int .i64 0, .str ⟨#[]⟩] [(0, 1, (.c (.int .i64 3))), (2, 1, (.s 50))] },
    { op := .store (.s 4) (.s 51) 3 false }] none false [0, 2, 4] [2, 4]) (.seq (.region [{ op := .mov 8 (.s 0) false },
    { op := .call (some 9) 31 [(.s 8), (.c (.int .i64 10)), (.c (.int .i64 64))] },
    { op := .mov 7 (.s 9) false },
    { op := .extract 10 (.s 7) 0 },
    { op := .extract 11 (.s 7) 1 },
    { op := .mov 5 (.s 10) false },
    { op := .mov 6 (.s 11) false }] none false [0, 2, 4, 5, 6] [2, 4])
  (.seq (.seq (.region [{ op := .mov 12 (.s 6) false },
    { op := .eqnil 13 true 2 (.s 12) }] none false [0, 2, 4, 5, 13] [2, 4])
  (.cond (.s 13) (.seq (.region [{ op := .build 14 [.int .i64 0, .int .i64 0, .str ⟨#[]⟩] [] },
    { op := .store (.s 2) (.s 14) 3 false },
    { op := .mov 3 (.c (.bool false)) false }] none false [2, 3] [2])
  .ret) (.skip [0, 2, 4, 5] [2, 4])))
  (.region [{ op := .mov 15 (.s 5) false },
    { op := .build 16 [.int .i64 0, .int .i64 0, .str ⟨#[]⟩] [(0, 1, (.c (.int .i64 1))), (1, 1, (.s 15))] },
    { op := .store (.s 4) (.s 16) 3 false }] none false [0, 2, 4] [2, 4]))))))))))))
  (.seq (.seq (.region [{ op := .load 52 3 true (.s 4) },
    { op := .call (some 53) 41 [(.s 52)] },
    { op := .un 54 .not (.s 53) },
    { op := .mov 55 (.s 54) false },
    { op := .load 56 3 true (.s 4), gd := some (55, false) },
    { op := .call (some 57) 42 [(.s 56)], gd := some (55, false) },
    { op := .mov 58 (.s 0) false, gd := some (55, false) },
    { op := .bin 59 .neq (.s 57) (.s 58), gd := some (55, false) },
    { op := .pick 60 (.s 55) (.c (.bool true)) (.s 59) }] none false [2, 4, 60] [2, 4])
  (.cond (.s 60) (.seq (.region [{ op := .build 61 [.int .i64 0, .int .i64 0, .str ⟨#[]⟩] [] },
    { op := .store (.s 2) (.s 61) 3 false },
    { op := .mov 3 (.c (.bool false)) false }] none false [2, 3] [2])
  .ret) (.skip [2, 4] [2, 4])))
  (.seq (.region [{ op := .load 62 3 true (.s 4) },
    { op := .store (.s 2) (.s 62) 3 false },
    { op := .mov 3 (.c (.bool true)) false }] none false [2, 3] [2])
  .ret))))) }

-- tactician/lexicon.InName
def a26 : AFun := { n := 1, N := 21, res := [.tmp 2], body :=
  (.seq (.region [{ op := .mov 2 (.c (.bool false)) false }] none false [0] [])
  (.seq (.region [{ op := .mov 3 (.s 0) false },
    { op := .bin 4 .geq (.s 3) (.c (.int .u8 97)) },
    { op := .mov 5 (.s 4) false },
    { op := .mov 6 (.s 0) false, gd := some (5, true) },
    { op := .bin 7 .leq (.s 6) (.c (.int .u8 122)), gd := some (5, true) },
    { op := .pick 8 (.s 5) (.s 7) (.c (.bool false)) },
    { op := .mov 9 (.s 8) false },
    { op := .mov 10 (.s 0) false, gd := some (9, false) },
    { op := .bin 11 .geq (.s 10) (.c (.int .u8 48)), gd := some (9, false) },
    { op := .mov 12 (.s 11) false, gd := some (9, false) },
    { op := .mov 13 (.s 0) false, gd := some (12, true) },
    { op := .bin 14 .leq (.s 13) (.c (.int .u8 57)), gd := some (12, true) },
    { op := .pick 15 (.s 12) (.s 14) (.c (.bool false)), gd := some (9, false) },
    { op := .pick 16 (.s 9) (.c (.bool true)) (.s 15) },
    { op := .mov 17 (.s 16) false },
    { op := .mov 18 (.s 0) false, gd := some (17, false) },
    { op := .bin 19 .eql (.s 18) (.c (.int .u8 95)), gd := some (17, false) },
    { op := .pick 20 (.s 17) (.c (.bool true)) (.s 19) },
    { op := .mov 2 (.s 20) false }] none false [2] [])
  .ret)) }

-- tactician/token.small
def a27 : AFun := { n := 1, N := 13, res := [.tmp 2], body :=
  (.seq (.region [{ op := .mov 2 (.c (.int .u8 0)) false }] none false [0] [])
  (.seq (.seq (.region [{ op := .mov 3 (.s 0) false },
    { op := .bin 4 .geq (.s 3) (.c (.int .u8 65)) },
    { op := .mov 5 (.s 4) false },
    { op := .mov 6 (.s 0) false, gd := some (5, true) },
    { op := .bin 7 .leq (.s 6) (.c (.int .u8 90)), gd := some (5, true) },
    { op := .pick 8 (.s 5) (.s 7) (.c (.bool false)) }] none false [0, 8] [])
  (.cond (.s 8) (.seq (.region [{ op := .mov 9 (.s 0) false },
    { op := .bin 10 .add (.s 9) (.c (.int .u8 97)) },
    { op := .bin 11 .sub (.s 10) (.c (.int .u8 65)) },
    { op := .mov 2 (.s 11) false }] none false [2] [])
  .ret) (.skip [0] [])))
  (.seq (.region [{ op := .mov 12 (.s 0) false },
    { op := .mov 2 (.s 12) false }] none false [2] [])
  .ret))) }

-- tactician/token.next$1
def a29 : AFun := { n := 1, N := 7, res := [.tmp 2], body :=
  (.seq (.region [{ op := .mov 2 (.c (.int .i32 0)) false }] none false [0] [])
  (.seq (.region [{ op := .mov 3 (.s 0) false },
    { op := .convI 4 .u8 (.s 3) },
    { op := .call (some 5) 27 [(.s 4)] },
    { op := .convI 6 .i32 (.s 5) },
    { op := .mov 2 (.s 6) false }] none false [2] [])
  .ret)) }

-- tactician/token.isDigit
def a30 : AFun := { n := 1, N := 9, res := [.tmp 2], body :=
  (.seq (.region [{ op := .mov 2 (.c (.bool false)) false }] none false [0] [])
  (.seq (.region [{ op := .mov 3 (.s 0) false },
    { op := .bin 4 .geq (.s 3) (.c (.int .u8 48)) },
    { op := .mov 5 (.s 4) false },
    { op := .mov 6 (.s 0) false, gd := some (5, true) },
    { op := .bin 7 .leq (.s 6) (.c (.int .u8 57)), gd := some (5, true) },
    { op := .pick 8 (.s 5) (.s 7) (.c (.bool false)) },
    { op := .mov 2 (.s 8) false }] none false [2] [])
  .ret)) }

-- tactician/lexicon.Shaped
def a33_l0 : ACode := (.seq (.region [{ op := .bin 24 .lss (.s 23) (.s 22) }] none false [0, 22, 23, 24] [])
  (.seq (.cond (.s 24) (.skip [0, 22, 23] []) (.exit 0 [] []))
  (.seq (.block 1 (.seq (.region [{ op := .mov 25 (.s 23) false },
    { op := .mov 3 (.s 25) false }] none false [0, 3, 22, 23] [])
  (.seq (.region [{ op := .mov 26 (.s 0) false },
    { op := .mov 27 (.s 3) false },
    { op := .idxS 28 (.s 26) (.s 27) },
    { op := .call (some 29) 26 [(.s 28)] },
    { op := .un 30 .not (.s 29) }] none false [0, 22, 23, 30] [])
  (.cond (.s 30) (.seq (.region [{ op := .mov 2 (.c (.bool false)) false }] none false [2] [])
  .ret) (.skip [0, 22, 23] [])))))
  (.region [{ op := .bin 31 .add (.s 23) (.c (.int .i64 1)) },
    { op := .mov 23 (.s 31) false }] none false [0, 22, 23] []))))
def a33 : AFun := { n := 1, N := 32, res := [.tmp 2], body :=
  (.seq (.region [{ op := .mov 2 (.c (.bool false)) false }] none false [0] [])
  (.seq (.seq (.region [{ op := .mov 4 (.s 0) false },
    { op := .bin 5 .eql (.s 4) (.c (.str ⟨#[]⟩)) },
    { op := .mov 6 (.s 5) false },
    { op := .mov 7 (.s 0) false, gd := some (6, false) },
    { op := .len 8 true (.s 7), gd := some (6, false) },
    { op := .bin 9 .gtr (.s 8) (.c (.int .i64 20)), gd := some (6, false) },
    { op := .pick 10 (.s 6) (.c (.bool true)) (.s 9) },
    { op := .mov 11 (.s 10) false },
    { op := .mov 12 (.s 0) false, gd := some (11, false) },
    { op := .idxS 13 (.s 12) (.c (.int .i64 0)), gd := some (11, false) },
    { op := .bin 14 .lss (.s 13) (.c (.int .u8 97)), gd := some (11, false) },
    { op := .pick 15 (.s 11) (.c (.bool true)) (.s 14) },
    { op := .mov 16 (.s 15) false },
    { op := .mov 17 (.s 0) false, gd := some (16, false) },
    { op := .idxS 18 (.s 17) (.c (.int .i64 0)), gd := some (16, false) },
    { op := .bin 19 .gtr (.s 18) (.c (.int .u8 122)), gd := some (16, false) },
    { op := .pick 20 (.s 16) (.c (.bool true)) (.s 19) }] none false [0, 20] [])
  (.cond (.s 20) (.seq (.region [{ op := .mov 2 (.c (.bool false)) false }] none false [2] [])
  .ret) (.skip [0] [])))
  (.seq (.seq (.region [{ op := .mov 21 (.s 0) false },
    { op := .len 22 true (.s 21) },
    { op := .mov 23 (.c (.int .i64 0)) false }] none false [0, 22, 23] [])
  (.block 0 (.loop a33_l0)))
  (.seq (.region [{ op := .mov 2 (.c (.bool true)) false }] none false [2] [])
  .ret)))) }

-- internal/stringslite.HasPrefix
def a37 : AFun := { n := 2, N := 18, res := [.tmp 4], body :=
  (.seq (.region [{ op := .mov 4 (.c (.bool false)) false }] none false [0, 1] [])
  (.seq (.region [{ op := .mov 5 (.s 0) false },
    { op := .len 6 true (.s 5) },
    { op := .mov 7 (.s 1) false },
    { op := .len 8 true (.s 7) },
    { op := .bin 9 .geq (.s 6) (.s 8) },
    { op := .mov 10 (.s 9) false },
    { op := .mov 11 (.s 0) false, gd := some (10, true) },
    { op := .mov 12 (.s 1) false, gd := some (10, true) },
    { op := .len 13 true (.s 12), gd := some (10, true) },
    { op := .sliceS 14 (.s 11) none (some (.s 13)), gd := some (10, true) },
    { op := .mov 15 (.s 1) false, gd := some (10, true) },
    { op := .bin 16 .eql (.s 14) (.s 15), gd := some (10, true) },
    { op := .pick 17 (.s 10) (.s 16) (.c (.bool false)) },
    { op := .mov 4 (.s 17) false }] none false [4] [])
  .ret)) }

-- tactician/value.True
def a38 : AFun := { n := 0, N := 2, res := [.cell 0 3 true], body :=
  (.seq (.region [{ op := .alloc 0 false [.int .i64 0, .int .i64 0, .str ⟨#[]⟩] [] }] none false [0] [0])
  (.seq (.region [{ op := .build 1 [.int .i64 0, .int .i64 0, .str ⟨#[]⟩] [(0, 1, (.c (.int .i64 2))), (1, 1, (.c (.int .i64 1)))] },
    { op := .store (.s 0) (.s 1) 3 false }] none false [0] [0])
  .ret)) }

-- tactician/value.False
def a39 : AFun := { n := 0, N := 2, res := [.cell 0 3 true], body :=
  (.seq (.region [{ op := .alloc 0 false [.int .i64 0, .int .i64 0, .str ⟨#[]⟩] [] }] none false [0] [0])
  (.seq (.region [{ op := .build 1 [.int .i64 0, .int .i64 0, .str ⟨#[]⟩] [(0, 1, (.c (.int .i64 2)))] },
    { op := .store (.s 0) (.s 1) 3 false }] none false [0] [0])
  .ret)) }

-- tactician/value.Is
def a41 : AFun := { n := 1, N := 51, res := [.tmp 2], body :=
  (.seq (.region [{ op := .box 1 false (.s 0) },
    { op := .mov 2 (.c (.bool false)) false }] none false [1] [1])
  (.seq (.seq (.region [{ op := .faddr 3 0 (.s 1) },
    { op := .load 4 1 false (.s 3) }] none false [1, 4] [1])
  (.block 0 (.seq (.region [{ op := .bin 6 .eql (.s 4) (.c (.int .i64 0)) },
    { op := .mov 5 (.s 6) false }] none false [1, 4, 5] [1])
  (.cond (.s 5) (.seq (.region [{ op := .faddr 7 1 (.s 1) },
    { op := .load 8 1 false (.s 7) },
    { op := .bin 9 .eql (.s 8) (.c (.int .i64 0)) },
    { op := .mov 10 (.s 9) false },
    { op := .faddr 11 2 (.s 1), gd := some (10, true) },
    { op := .load 12 1 false (.s 11), gd := some (10, true) },
    { op := .bin 13 .eql (.s 12) (.c (.str ⟨#[]⟩)), gd := some (10, true) },
    { op := .pick 14 (.s 10) (.s 13) (.c (.bool false)) },
    { op := .mov 2 (.s 14) false }] none false [2] [])
  .ret) (.seq (.region [{ op := .bin 16 .eql (.s 4) (.c (.int .i64 1)) },
    { op := .mov 15 (.s 16) false }] none false [1, 4, 15] [1])
  (.cond (.s 15) (.seq (.region [{ op := .faddr 17 2 (.s 1) },
    { op := .load 18 1 false (.s 17) },
    { op := .bin 19 .eql (.s 18) (.c (.str ⟨#[]⟩)) },
    { op := .mov 2 (.s 19) false }] none false [2] [])
  .ret) (.seq (.region [{ op := .bin 21 .eql (.s 4) (.c (.int .i64 2)) },
    { op := .mov 20 (.s 21) false }] none false [1, 4, 20] [1])
  (.cond (.s 20) (.seq (.region [{ op := .faddr 22 2 (.s 1) },
    { op := .load 23 1 false (.s 22) },
    { op := .bin 24 .eql (.s 23) (.c (.str ⟨#[]⟩)) },
    { op := .mov 25 (.s 24) false },
    { op := .faddr 26 1 (.s 1), gd := some (25, true) },
    { op := .load 27 1 false (.s 26), gd := some (25, true) },
    { op := .bin 28 .eql (.s 27) (.c (.int .i64 0)), gd := some (25, true) },
    { op := .mov 29 (.s 28) false, gd := some (25, true) },
    { op := .faddr 30 1 (.s 1), gd := some (29, false) },
    { op := .load 31 1 false (.s 30), gd := some (29, false) },
    { op := .bin 32 .eql (.s 31) (.c (.int .i64 1)), gd := some (29, false) },
    { op := .pick 33 (.s 29) (.c (.bool true)) (.s 32), gd := some (25, true) },
    { op := .pick 34 (.s 25) (.s 33) (.c (.bool false)) },
    { op := .mov 2 (.s 34) false }] none false [2] [])
  .ret) (.seq (.region [{ op := .bin 36 .eql (.s 4) (.c (.int .i64 3)) },
    { op := .mov 35 (.s 36) false }] none false [1, 35] [1])
  (.cond (.s 35) (.seq (.region [{ op := .faddr 37 1 (.s 1) },
    { op := .load 38 1 false (.s 37) },
    { op := .bin 39 .eql (.s 38) (.c (.int .i64 0)) },
    { op := .mov 40 (.s 39) false },
    { op := .faddr 41 2 (.s 1), gd := some (40, true) },
    { op := .load 42 1 false (.s 41), gd := some (40, true) },
    { op := .len 43 true (.s 42), gd := some (40, true) },
    { op := .bin 44 .leq (.s 43) (.c (.int .i64 200)), gd := some (40, true) },
    { op := .pick 45 (.s 40) (.s 44) (.c (.bool false)) },
    { op := .mov 46 (.s 45) false },
    { op := .faddr 47 2 (.s 1), gd := some (46, true) },
    { op := .load 48 1 false (.s 47), gd := some (46, true) },
    { op := .call (some 49) 54 [(.s 48)], gd := some (46, true) },
    { op := .pick 50 (.s 46) (.s 49) (.c (.bool false)) },
    { op := .mov 2 (.s 50) false }] none false [2] [])
  .ret) (.skip [] [])))))))))))
  (.seq (.region [{ op := .mov 2 (.c (.bool false)) false }] none false [2] [])
  .ret))) }

-- tactician/value.Written
def a42 : AFun := { n := 1, N := 25, res := [.tmp 2], body :=
  (.seq (.region [{ op := .box 1 false (.s 0) },
    { op := .mov 2 (.c (.str ⟨#[]⟩)) false }] none false [1] [1])
  (.seq (.region [{ op := .build 4 [.str ⟨#[]⟩, .str ⟨#[]⟩] [(0, 1, (.c (.str ⟨#[102, 97, 108, 115, 101]⟩))), (1, 1, (.c (.str ⟨#[116, 114, 117, 101]⟩)))] },
    { op := .alloc 3 false [.str ⟨#[]⟩, .str ⟨#[]⟩] [] },
    { op := .store (.s 3) (.s 4) 2 false }] none false [1, 3] [1, 3])
  (.seq (.seq (.region [{ op := .faddr 5 0 (.s 1) },
    { op := .load 6 1 false (.s 5) }] none false [1, 3, 6] [1, 3])
  (.block 0 (.seq (.region [{ op := .bin 8 .eql (.s 6) (.c (.int .i64 1)) },
    { op := .mov 7 (.s 8) false }] none false [1, 3, 6, 7] [1, 3])
  (.cond (.s 7) (.seq (.region [{ op := .faddr 9 1 (.s 1) },
    { op := .load 10 1 false (.s 9) },
    { op := .call (some 11) 32 [(.s 10), (.c (.int .i64 10))] },
    { op := .mov 2 (.s 11) false }] none false [2] [])
  .ret) (.seq (.region [{ op := .bin 13 .eql (.s 6) (.c (.int .i64 2)) },
    { op := .mov 12 (.s 13) false }] none false [1, 3, 6, 12] [1, 3])
  (.cond (.s 12) (.seq (.region [{ op := .faddr 14 1 (.s 1) },
    { op := .load 15 1 false (.s 14) },
    { op := .iaddrA 16 2 1 (.s 3) (.s 15) },
    { op := .load 17 1 false (.s 16) },
    { op := .mov 2 (.s 17) false }] none false [2] [])
  .ret) (.seq (.region [{ op := .bin 19 .eql (.s 6) (.c (.int .i64 3)) },
    { op := .mov 18 (.s 19) false }] none false [1, 18] [1])
  (.cond (.s 18) (.seq (.region [{ op := .faddr 20 2 (.s 1) },
    { op := .load 21 1 false (.s 20) },
    { op := .call (some 22) 40 [(.s 21), (.c (.str ⟨#[39]⟩)), (.c (.str ⟨#[39, 39]⟩))] },
    { op := .bin 23 .add (.c (.str ⟨#[39]⟩)) (.s 22) },
    { op := .bin 24 .add (.s 23) (.c (.str ⟨#[39]⟩)) },
    { op := .mov 2 (.s 24) false }] none false [2] [])
  .ret) (.skip [] [])))))))))
  (.seq (.region [{ op := .mov 2 (.c (.str ⟨#[110, 117, 108, 108]⟩)) false }] none false [2] [])
  .ret)))) }

-- tactician/value.printable
def a54_l0 : ACode := (.seq (.region [{ op := .bin 7 .lss (.s 6) (.s 5) }] none false [0, 5, 6, 7] [])
  (.seq (.cond (.s 7) (.skip [0, 5, 6] []) (.exit 0 [] []))
  (.seq (.block 1 (.seq (.region [{ op := .mov 8 (.s 6) false },
    { op := .mov 3 (.s 8) false }] none false [0, 3, 5, 6] [])
  (.seq (.region [{ op := .mov 9 (.s 0) false },
    { op := .mov 10 (.s 3) false },
    { op := .idxS 11 (.s 9) (.s 10) },
    { op := .bin 12 .lss (.s 11) (.c (.int .u8 32)) },
    { op := .mov 13 (.s 12) false },
    { op := .mov 14 (.s 0) false, gd := some (13, false) },
    { op := .mov 15 (.s 3) false, gd := some (13, false) },
    { op := .idxS 16 (.s 14) (.s 15), gd := some (13, false) },
    { op := .bin 17 .gtr (.s 16) (.c (.int .u8 126)), gd := some (13, false) },
    { op := .pick 18 (.s 13) (.c (.bool true)) (.s 17) }] none false [0, 5, 6, 18] [])
  (.cond (.s 18) (.seq (.region [{ op := .mov 2 (.c (.bool false)) false }] none false [2] [])
  .ret) (.skip [0, 5, 6] [])))))
  (.region [{ op := .bin 19 .add (.s 6) (.c (.int .i64 1)) },
    { op := .mov 6 (.s 19) false }] none false [0, 5, 6] []))))
def a54 : AFun := { n := 1, N := 20, res := [.tmp 2], body :=
  (.seq (.region [{ op := .mov 2 (.c (.bool false)) false }] none false [0] [])
  (.seq (.seq (.region [{ op := .mov 4 (.s 0) false },
    { op := .len 5 true (.s 4) },
    { op := .mov 6 (.c (.int .i64 0)) false }] none false [0, 5, 6] [])
  (.block 0 (.loop a54_l0)))
  (.seq (.region [{ op := .mov 2 (.c (.bool true)) false }] none false [2] [])
  .ret))) }

def tabA : List (Nat × AFun) := [(3, a3), (4, a4), (6, a6), (7, a7), (9, a9), (11, a11), (12, a12), (13, a13), (17, a17), (18, a18), (19, a19), (22, a22), (23, a23), (24, a24), (25, a25), (26, a26), (27, a27), (29, a29), (30, a30), (33, a33), (37, a37), (38, a38), (39, a39), (41, a41), (42, a42), (54, a54)]
def tabX : List (Nat × Ext') := [(10, xJoin), (28, xMapS 29), (31, xParseInt 105), (32, xFormatInt), (36, xFields), (40, xReplaceAll)]
theorem mixed : Tryd.prog.follows .mixedOrders = true := by kernel_rfl
theorem tabA_ok : tabA.all (fun p => mFun Tryd.prog p.1 p.2) = true := by kernel_rfl
end Go.Av
