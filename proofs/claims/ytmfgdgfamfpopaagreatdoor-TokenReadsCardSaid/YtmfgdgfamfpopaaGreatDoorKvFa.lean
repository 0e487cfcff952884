/- Part of a proof: The functions of the seat in the abstract form (printed by airgen.py), and that they are the program's. -/
import Derived.Test.YtmfgdgfamfpopaaGreatDoorProg
import Derived.Test.YtmfgdgfamfpopaaGreatDoorF3
set_option maxRecDepth 100000
namespace Go.Av
open Go Go.Proofs

-- tactician/tacticianlaw08.TokenReads
def a3 : AFun := { n := 1, N := 58, res := [.tmp 2], body :=
  (.seq (.region [{ op := .mov 2 (.c (.bool false)) false }] none false [0] [])
  (.seq (.region [{ op := .mov 8 (.s 0) false },
    { op := .mov 9 (.s 0) false },
    { op := .len 10 true (.s 9) },
    { op := .mm 11 false (.s 10) (.c (.int .i64 4002)) },
    { op := .sliceS 12 (.s 8) none (some (.s 11)) },
    { op := .mov 3 (.s 12) false }] none false [3] [])
  (.seq (.region [{ op := .mov 14 (.s 3) false },
    { op := .call (some 15) 5 [(.s 14)] },
    { op := .mov 13 (.s 15) false },
    { op := .extract 16 (.s 13) 0 },
    { op := .extract 17 (.s 13) 1 },
    { op := .mov 4 (.s 16) true },
    { op := .mov 5 (.s 17) false }] none false [3, 4, 5] [])
  (.seq (.seq (.region [{ op := .mov 18 (.s 3) false },
    { op := .len 19 true (.s 18) },
    { op := .bin 20 .gtr (.s 19) (.c (.int .i64 4000)) }] none false [3, 4, 5, 20] [])
  (.cond (.s 20) (.seq (.region [{ op := .mov 21 (.s 4) true },
    { op := .len 22 false (.s 21) },
    { op := .bin 23 .eql (.s 22) (.c (.int .i64 0)) },
    { op := .mov 24 (.s 23) false },
    { op := .mov 25 (.s 5) false, gd := some (24, true) },
    { op := .bin 26 .eql (.s 25) (.c (.int .i64 2)), gd := some (24, true) },
    { op := .pick 27 (.s 24) (.s 26) (.c (.bool false)) },
    { op := .mov 28 (.s 27) false },
    { op := .call (some 29) 6 [], gd := some (28, true) },
    { op := .pick 30 (.s 28) (.s 29) (.c (.bool false)) },
    { op := .mov 2 (.s 30) false }] none false [2] [])
  .ret) (.skip [3, 4, 5] [])))
  (.seq (.region [{ op := .mov 32 (.s 3) false },
    { op := .call (some 33) 7 [(.s 32)] },
    { op := .mov 31 (.s 33) false },
    { op := .extract 34 (.s 31) 0 },
    { op := .extract 35 (.s 31) 1 },
    { op := .mov 6 (.s 34) true },
    { op := .mov 7 (.s 35) false }] none false [4, 5, 6, 7] [])
  (.seq (.seq (.region [{ op := .mov 36 (.s 7) false },
    { op := .un 37 .not (.s 36) }] none false [4, 5, 6, 37] [])
  (.cond (.s 37) (.seq (.region [{ op := .mov 38 (.s 4) true },
    { op := .len 39 false (.s 38) },
    { op := .bin 40 .eql (.s 39) (.c (.int .i64 0)) },
    { op := .mov 41 (.s 40) false },
    { op := .mov 42 (.s 5) false, gd := some (41, true) },
    { op := .bin 43 .eql (.s 42) (.c (.int .i64 80)), gd := some (41, true) },
    { op := .pick 44 (.s 41) (.s 43) (.c (.bool false)) },
    { op := .mov 45 (.s 44) false },
    { op := .call (some 46) 6 [], gd := some (45, true) },
    { op := .pick 47 (.s 45) (.s 46) (.c (.bool false)) },
    { op := .mov 2 (.s 47) false }] none false [2] [])
  .ret) (.skip [4, 5, 6] [])))
  (.seq (.region [{ op := .mov 48 (.s 4) true },
    { op := .mov 49 (.s 6) true },
    { op := .call (some 50) 8 [(.s 48), (.s 49)] },
    { op := .mov 51 (.s 50) false },
    { op := .mov 52 (.s 5) false, gd := some (51, true) },
    { op := .bin 53 .eql (.s 52) (.c (.int .i64 0)), gd := some (51, true) },
    { op := .pick 54 (.s 51) (.s 53) (.c (.bool false)) },
    { op := .mov 55 (.s 54) false },
    { op := .call (some 56) 6 [], gd := some (55, true) },
    { op := .pick 57 (.s 55) (.s 56) (.c (.bool false)) },
    { op := .mov 2 (.s 57) false }] none false [2] [])
  .ret))))))) }

-- tactician/tacticianlaw08.TokenWords
def a4_l0 : ACode := (.seq (.seq (.region [{ op := .mov 14 (.s 6) false },
    { op := .mov 15 (.s 4) false },
    { op := .len 16 false (.s 15) },
    { op := .bin 17 .lss (.s 14) (.s 16) },
    { op := .mov 18 (.s 17) false },
    { op := .mov 19 (.s 6) false, gd := some (18, true) },
    { op := .mov 20 (.s 5) false, gd := some (18, true) },
    { op := .len 21 false (.s 20), gd := some (18, true) },
    { op := .bin 22 .lss (.s 19) (.s 21), gd := some (18, true) },
    { op := .pick 23 (.s 18) (.s 22) (.c (.bool false)) }] none false [3, 4, 5, 6, 23] [])
  (.cond (.s 23) (.skip [3, 4, 5, 6] []) (.exit 0 [3, 4, 5] [])))
  (.seq (.block 1 (.seq (.region [{ op := .mov 26 (.s 4) false },
    { op := .mov 27 (.s 6) false },
    { op := .iaddrS 28 1 (.s 26) (.s 27) },
    { op := .load 29 1 false (.s 28), blk := some 99999 },
    { op := .mov 30 (.s 5) false },
    { op := .mov 31 (.s 6) false },
    { op := .iaddrS 32 1 (.s 30) (.s 31) },
    { op := .load 33 1 false (.s 32), blk := some 99999 },
    { op := .bin 34 .neq (.s 29) (.s 33) },
    { op := .mov 35 (.s 34) false },
    { op := .mov 36 (.s 4) false, gd := some (35, false) },
    { op := .mov 37 (.s 6) false, gd := some (35, false) },
    { op := .iaddrS 38 1 (.s 36) (.s 37), gd := some (35, false) },
    { op := .load 39 1 false (.s 38), gd := some (35, false), blk := some 99999 },
    { op := .call (some 40) 11 [(.s 39)], gd := some (35, false) },
    { op := .un 41 .not (.s 40), gd := some (35, false) },
    { op := .pick 42 (.s 35) (.c (.bool true)) (.s 41) },
    { op := .mov 43 (.s 42) false },
    { op := .mov 44 (.s 4) false, gd := some (43, false) },
    { op := .mov 45 (.s 6) false, gd := some (43, false) },
    { op := .iaddrS 46 1 (.s 44) (.s 45), gd := some (43, false) },
    { op := .load 47 1 false (.s 46), gd := some (43, false), blk := some 99999 },
    { op := .call (some 48) 12 [(.s 47)], gd := some (43, false) },
    { op := .pick 49 (.s 43) (.c (.bool true)) (.s 48) }] (some [0, 0, 3, 7, 0, 0, 48, 112, 255, 511, 1023, 1023, 4095, 8191, 16383, 32767, 65535, 131071, 262143, 262143, 1048575, 2097151, 4194303, 8388607]) true [3, 4, 5, 6, 49] [])
  (.cond (.s 49) (.seq (.region [{ op := .mov 2 (.c (.bool false)) false }] none false [2] [])
  .ret) (.skip [3, 4, 5, 6] []))))
  (.region [{ op := .mov 24 (.s 6) false },
    { op := .bin 25 .add (.s 24) (.c (.int .i64 1)) },
    { op := .mov 6 (.s 25) false }] none false [3, 4, 5, 6] [])))
def a4 : AFun := { n := 1, N := 72, res := [.tmp 2], body :=
  (.seq (.region [{ op := .mov 2 (.c (.bool false)) false }] none false [0] [])
  (.seq (.region [{ op := .mov 7 (.s 0) false },
    { op := .mov 8 (.s 0) false },
    { op := .len 9 true (.s 8) },
    { op := .mm 10 false (.s 9) (.c (.int .i64 100)) },
    { op := .sliceS 11 (.s 7) none (some (.s 10)) },
    { op := .mov 3 (.s 11) false }] none false [3] [])
  (.seq (.region [{ op := .call (some 12) 9 [] },
    { op := .call (some 13) 10 [] },
    { op := .mov 4 (.s 12) true },
    { op := .mov 5 (.s 13) true }] none false [3, 4, 5] [])
  (.seq (.seq (.region [{ op := .mov 6 (.c (.int .i64 0)) false }] none false [3, 4, 5, 6] [])
  (.block 0 (.loop a4_l0)))
  (.seq (.region [{ op := .mov 50 (.s 4) true },
    { op := .len 51 false (.s 50) },
    { op := .mov 52 (.s 5) true },
    { op := .len 53 false (.s 52) },
    { op := .bin 54 .eql (.s 51) (.s 53) },
    { op := .mov 55 (.s 54) false },
    { op := .mov 56 (.s 3) false, gd := some (55, true) },
    { op := .call (some 57) 12 [(.s 56)], gd := some (55, true) },
    { op := .mov 58 (.s 3) false, gd := some (55, true) },
    { op := .call (some 59) 13 [(.s 58)], gd := some (55, true) },
    { op := .eqb 60 false (.s 57) (.s 59), gd := some (55, true) },
    { op := .pick 61 (.s 55) (.s 60) (.c (.bool false)) },
    { op := .mov 62 (.s 61) false },
    { op := .mov 63 (.s 3) false, gd := some (62, true) },
    { op := .call (some 64) 11 [(.s 63)], gd := some (62, true) },
    { op := .mov 65 (.s 3) false, gd := some (62, true) },
    { op := .call (some 66) 14 [(.s 65)], gd := some (62, true) },
    { op := .eqb 67 false (.s 64) (.s 66), gd := some (62, true) },
    { op := .pick 68 (.s 62) (.s 67) (.c (.bool false)) },
    { op := .mov 69 (.s 68) false },
    { op := .call (some 70) 6 [], gd := some (69, true) },
    { op := .pick 71 (.s 69) (.s 70) (.c (.bool false)) },
    { op := .mov 2 (.s 71) false }] none false [2] [])
  .ret))))) }

-- tactician/tacticianlaw08.awake
def a6 : AFun := { n := 0, N := 28, res := [.tmp 0], body :=
  (.seq (.region [{ op := .mov 0 (.c (.bool false)) false }] none false [] [])
  (.seq (.region [{ op := .call (some 6) 5 [(.c (.str ⟨#[83, 101, 108, 101, 99, 116, 32, 97, 60, 61, 49, 48]⟩))] },
    { op := .mov 5 (.s 6) false },
    { op := .extract 7 (.s 5) 0 },
    { op := .extract 8 (.s 5) 1 },
    { op := .mov 1 (.s 7) true },
    { op := .mov 2 (.s 8) false }] none false [1, 2] [])
  (.seq (.region [{ op := .call (some 10) 5 [(.c (.str ⟨#[48, 49]⟩))] },
    { op := .mov 9 (.s 10) false },
    { op := .extract 11 (.s 9) 0 },
    { op := .extract 12 (.s 9) 1 },
    { op := .mov 3 (.s 11) true },
    { op := .mov 4 (.s 12) false }] none false [1, 2, 4] [])
  (.seq (.region [{ op := .mov 13 (.s 2) false },
    { op := .bin 14 .eql (.s 13) (.c (.int .i64 0)) },
    { op := .mov 15 (.s 14) false },
    { op := .mov 16 (.s 1) true, gd := some (15, true) },
    { op := .build 17 [.int .i64 0, .str ⟨#[]⟩, .int .i64 0] [(0, 1, (.c (.int .i64 1))), (1, 1, (.c (.str ⟨#[115, 101, 108, 101, 99, 116]⟩)))], gd := some (15, true) },
    { op := .build 18 [.int .i64 0, .str ⟨#[]⟩, .int .i64 0] [(0, 1, (.c (.int .i64 2))), (1, 1, (.c (.str ⟨#[97]⟩))), (2, 1, (.c (.int .i64 7)))], gd := some (15, true) },
    { op := .build 19 [.int .i64 0, .str ⟨#[]⟩, .int .i64 0] [(0, 1, (.c (.int .i64 5))), (1, 1, (.c (.str ⟨#[60, 61]⟩))), (2, 1, (.c (.int .i64 8)))], gd := some (15, true) },
    { op := .build 20 [.int .i64 0, .str ⟨#[]⟩, .int .i64 0] [(0, 1, (.c (.int .i64 3))), (1, 1, (.c (.str ⟨#[49, 48]⟩))), (2, 1, (.c (.int .i64 10)))], gd := some (15, true) },
    { op := .bslice 21 3 41 [(.s 17), (.s 18), (.s 19), (.s 20)], gd := some (15, true) },
    { op := .call (some 22) 8 [(.s 16), (.s 21)], gd := some (15, true) },
    { op := .pick 23 (.s 15) (.s 22) (.c (.bool false)) },
    { op := .mov 24 (.s 23) false },
    { op := .mov 25 (.s 4) false, gd := some (24, true) },
    { op := .bin 26 .eql (.s 25) (.c (.int .i64 80)), gd := some (24, true) },
    { op := .pick 27 (.s 24) (.s 26) (.c (.bool false)) },
    { op := .mov 0 (.s 27) false }] none false [0] [])
  .ret)))) }

-- tactician/tacticianref08.Tokens
def a7_l0 : ACode := (.seq (.seq (.region [{ op := .mov 8 (.s 5) false },
    { op := .mov 9 (.s 0) false },
    { op := .len 10 true (.s 9) },
    { op := .bin 11 .lss (.s 8) (.s 10) }] none false [0, 4, 5, 11] [])
  (.cond (.s 11) (.skip [0, 4, 5] []) (.exit 0 [4] [])))
  (.block 1 (.seq (.seq (.region [{ op := .mov 12 (.s 0) false },
    { op := .mov 13 (.s 5) false },
    { op := .idxS 14 (.s 12) (.s 13) },
    { op := .bin 15 .eql (.s 14) (.c (.int .u8 32)) },
    { op := .mov 16 (.s 15) false },
    { op := .mov 17 (.s 0) false, gd := some (16, false) },
    { op := .mov 18 (.s 5) false, gd := some (16, false) },
    { op := .idxS 19 (.s 17) (.s 18), gd := some (16, false) },
    { op := .bin 20 .eql (.s 19) (.c (.int .u8 10)), gd := some (16, false) },
    { op := .pick 21 (.s 16) (.c (.bool true)) (.s 20) }] none false [0, 4, 5, 21] [])
  (.cond (.s 21) (.seq (.region [{ op := .mov 22 (.s 5) false },
    { op := .bin 23 .add (.s 22) (.c (.int .i64 1)) },
    { op := .mov 5 (.s 23) false }] none false [0, 4, 5] [])
  (.exit 1 [0, 4, 5] [])) (.skip [0, 4, 5] [])))
  (.seq (.region [{ op := .mov 25 (.s 0) false },
    { op := .mov 26 (.s 5) false },
    { op := .sliceS 27 (.s 25) (some (.s 26)) none },
    { op := .call (some 28) 16 [(.s 27)] },
    { op := .mov 24 (.s 28) false },
    { op := .extract 29 (.s 24) 0 },
    { op := .extract 30 (.s 24) 1 },
    { op := .alloc 6 false [.int .i64 0, .str ⟨#[]⟩, .int .i64 0] [] },
    { op := .store (.s 6) (.s 29) 3 false },
    { op := .mov 7 (.s 30) false }] none false [0, 4, 5, 6, 7] [6])
  (.seq (.seq (.region [{ op := .mov 31 (.s 7) false },
    { op := .bin 32 .eql (.s 31) (.c (.int .i64 0)) }] none false [0, 4, 5, 6, 7, 32] [6])
  (.cond (.s 32) (.seq (.region [{ op := .nils 2 3 41 },
    { op := .mov 3 (.c (.bool false)) false }] none false [2, 3] [])
  .ret) (.skip [0, 4, 5, 6, 7] [6])))
  (.seq (.region [{ op := .mov 33 (.s 5) false },
    { op := .faddr 34 2 (.s 6) },
    { op := .store (.s 34) (.s 33) 1 false }] none false [0, 4, 5, 6, 7] [6])
  (.seq (.region [{ op := .mov 35 (.s 4) true },
    { op := .load 36 3 true (.s 6) },
    { op := .bslice 37 3 41 [(.s 36)] },
    { op := .append 38 3 41 32 (.s 35) (.s 37) },
    { op := .mov 4 (.s 38) true }] none false [0, 4, 5, 7] [])
  (.region [{ op := .mov 39 (.s 5) false },
    { op := .mov 40 (.s 7) false },
    { op := .bin 41 .add (.s 39) (.s 40) },
    { op := .mov 5 (.s 41) false }] none false [0, 4, 5] []))))))))
def a7 : AFun := { n := 1, N := 43, res := [.tmp 2, .tmp 3], body :=
  (.seq (.region [{ op := .nils 2 3 41 },
    { op := .mov 3 (.c (.bool false)) false }] none false [0] [])
  (.seq (.region [{ op := .nils 4 3 41 }] none false [0, 4] [])
  (.seq (.region [{ op := .mov 5 (.c (.int .i64 0)) false }] none false [0, 4, 5] [])
  (.seq (.block 0 (.loop a7_l0))
  (.seq (.region [{ op := .mov 42 (.s 4) true },
    { op := .mov 2 (.s 42) true },
    { op := .mov 3 (.c (.bool true)) false }] none false [2, 3] [])
  .ret))))) }

-- tactician/tacticianlaw08.same
def a8_l0 : ACode := (.seq (.seq (.region [{ op := .mov 6 (.s 5) false },
    { op := .mov 7 (.s 0) false },
    { op := .len 8 false (.s 7) },
    { op := .bin 9 .lss (.s 6) (.s 8) },
    { op := .mov 10 (.s 9) false },
    { op := .mov 11 (.s 5) false, gd := some (10, true) },
    { op := .mov 12 (.s 1) false, gd := some (10, true) },
    { op := .len 13 false (.s 12), gd := some (10, true) },
    { op := .bin 14 .lss (.s 11) (.s 13), gd := some (10, true) },
    { op := .pick 15 (.s 10) (.s 14) (.c (.bool false)) }] none false [0, 1, 5, 15] [])
  (.cond (.s 15) (.skip [0, 1, 5] []) (.exit 0 [0, 1] [])))
  (.seq (.block 1 (.seq (.region [{ op := .mov 18 (.s 0) false },
    { op := .mov 19 (.s 5) false },
    { op := .iaddrS 20 3 (.s 18) (.s 19) },
    { op := .faddr 21 0 (.s 20) },
    { op := .load 22 1 false (.s 21), blk := some 99999 },
    { op := .mov 23 (.s 1) false },
    { op := .mov 24 (.s 5) false },
    { op := .iaddrS 25 3 (.s 23) (.s 24) },
    { op := .faddr 26 0 (.s 25) },
    { op := .load 27 1 false (.s 26), blk := some 99999 },
    { op := .bin 28 .neq (.s 22) (.s 27) },
    { op := .mov 29 (.s 28) false },
    { op := .mov 30 (.s 0) false, gd := some (29, false) },
    { op := .mov 31 (.s 5) false, gd := some (29, false) },
    { op := .iaddrS 32 3 (.s 30) (.s 31), gd := some (29, false) },
    { op := .faddr 33 1 (.s 32), gd := some (29, false) },
    { op := .load 34 1 false (.s 33), gd := some (29, false), blk := some 99999 },
    { op := .mov 35 (.s 1) false, gd := some (29, false) },
    { op := .mov 36 (.s 5) false, gd := some (29, false) },
    { op := .iaddrS 37 3 (.s 35) (.s 36), gd := some (29, false) },
    { op := .faddr 38 1 (.s 37), gd := some (29, false) },
    { op := .load 39 1 false (.s 38), gd := some (29, false), blk := some 99999 },
    { op := .bin 40 .neq (.s 34) (.s 39), gd := some (29, false) },
    { op := .pick 41 (.s 29) (.c (.bool true)) (.s 40) },
    { op := .mov 42 (.s 41) false },
    { op := .mov 43 (.s 0) false, gd := some (42, false) },
    { op := .mov 44 (.s 5) false, gd := some (42, false) },
    { op := .iaddrS 45 3 (.s 43) (.s 44), gd := some (42, false) },
    { op := .faddr 46 2 (.s 45), gd := some (42, false) },
    { op := .load 47 1 false (.s 46), gd := some (42, false), blk := some 99999 },
    { op := .mov 48 (.s 1) false, gd := some (42, false) },
    { op := .mov 49 (.s 5) false, gd := some (42, false) },
    { op := .iaddrS 50 3 (.s 48) (.s 49), gd := some (42, false) },
    { op := .faddr 51 2 (.s 50), gd := some (42, false) },
    { op := .load 52 1 false (.s 51), gd := some (42, false), blk := some 99999 },
    { op := .bin 53 .neq (.s 47) (.s 52), gd := some (42, false) },
    { op := .pick 54 (.s 42) (.c (.bool true)) (.s 53) }] (some [0, 0, 3, 7, 15, 0, 0, 96, 224, 480, 1023, 2047, 4095, 4095, 16383, 32767, 65535, 4095, 4095, 397311, 921599, 1970175, 4194303, 8388607, 16777215, 33554431, 33554431, 134217727, 268435455, 536870911, 33554431, 33554431, 3254779903, 7549747199, 16139681791, 34359738367, 68719476735]) true [0, 1, 5, 54] [])
  (.cond (.s 54) (.seq (.region [{ op := .mov 4 (.c (.bool false)) false }] none false [4] [])
  .ret) (.skip [0, 1, 5] []))))
  (.region [{ op := .mov 16 (.s 5) false },
    { op := .bin 17 .add (.s 16) (.c (.int .i64 1)) },
    { op := .mov 5 (.s 17) false }] none false [0, 1, 5] [])))
def a8 : AFun := { n := 2, N := 60, res := [.tmp 4], body :=
  (.seq (.region [{ op := .mov 4 (.c (.bool false)) false }] none false [0, 1] [])
  (.seq (.seq (.region [{ op := .mov 5 (.c (.int .i64 0)) false }] none false [0, 1, 5] [])
  (.block 0 (.loop a8_l0)))
  (.seq (.region [{ op := .mov 55 (.s 0) true },
    { op := .len 56 false (.s 55) },
    { op := .mov 57 (.s 1) true },
    { op := .len 58 false (.s 57) },
    { op := .bin 59 .eql (.s 56) (.s 58) },
    { op := .mov 4 (.s 59) false }] none false [4] [])
  .ret))) }

-- tactician/token.Words
def a9 : AFun := { n := 0, N := 2, res := [.tmp 0], body :=
  (.seq (.region [{ op := .nils 0 1 9 }] none false [] [])
  (.seq (.region [{ op := .call (some 1) 17 [] },
    { op := .mov 0 (.s 1) true }] none false [0] [])
  .ret)) }

-- tactician/tacticianref08.Words
def a10 : AFun := { n := 0, N := 2, res := [.tmp 0], body :=
  (.seq (.region [{ op := .nils 0 1 9 }] none false [] [])
  (.seq (.region [{ op := .call (some 1) 18 [] },
    { op := .mov 0 (.s 1) true }] none false [0] [])
  .ret)) }

-- tactician/token.IsWord
def a11 : AFun := { n := 1, N := 6, res := [.tmp 2], body :=
  (.seq (.region [{ op := .mov 2 (.c (.bool false)) false }] none false [0] [])
  (.seq (.region [{ op := .call (some 3) 19 [] },
    { op := .mov 4 (.s 0) false },
    { op := .lookup 5 false none (.bool false) (.s 3) (.s 4) },
    { op := .mov 2 (.s 5) false }] none false [2] [])
  .ret)) }

-- tactician/token.IsName
def a12 : AFun := { n := 1, N := 5, res := [.tmp 2], body :=
  (.seq (.region [{ op := .mov 2 (.c (.bool false)) false }] none false [0] [])
  (.seq (.region [{ op := .mov 3 (.s 0) false },
    { op := .call (some 4) 20 [(.s 3)] },
    { op := .mov 2 (.s 4) false }] none false [2] [])
  .ret)) }

-- tactician/tacticianref08.IsName
def a13 : AFun := { n := 1, N := 5, res := [.tmp 2], body :=
  (.seq (.region [{ op := .mov 2 (.c (.bool false)) false }] none false [0] [])
  (.seq (.region [{ op := .mov 3 (.s 0) false },
    { op := .call (some 4) 21 [(.s 3)] },
    { op := .mov 2 (.s 4) false }] none false [2] [])
  .ret)) }

-- tactician/tacticianref08.IsWord
def a14 : AFun := { n := 1, N := 5, res := [.tmp 2], body :=
  (.seq (.region [{ op := .mov 2 (.c (.bool false)) false }] none false [0] [])
  (.seq (.region [{ op := .mov 3 (.s 0) false },
    { op := .call (some 4) 22 [(.s 3)] },
    { op := .mov 2 (.s 4) false }] none false [2] [])
  .ret)) }

-- tactician/token.tokens
def a15 : AFun := { n := 1, N := 4, res := [.tmp 2], body :=
  (.seq (.region [{ op := .box 1 false (.s 0) },
    { op := .mov 2 (.c (.nilfn)) false }] none false [1] [1])
  (.seq (.freeze 1 (.region [{ op := .mkfn 3 (.func 23) [] [(.s 1)] },
    { op := .mov 2 (.s 3) false }] none false [2] []))
  .ret)) }

-- tactician/tacticianref08.one
def a16_l0 : ACode := (.seq (.seq (.region [{ op := .mov 42 (.s 7) false },
    { op := .len 43 false (.s 42) },
    { op := .mov 44 (.s 0) false },
    { op := .len 45 true (.s 44) },
    { op := .bin 46 .lss (.s 43) (.s 45) },
    { op := .mov 47 (.s 46) false },
    { op := .mov 48 (.s 0) false, gd := some (47, true) },
    { op := .mov 49 (.s 7) false, gd := some (47, true) },
    { op := .len 50 false (.s 49), gd := some (47, true) },
    { op := .idxS 51 (.s 48) (.s 50), gd := some (47, true) },
    { op := .call (some 52) 28 [(.s 51)], gd := some (47, true) },
    { op := .call (some 53) 27 [(.s 52)], gd := some (47, true) },
    { op := .pick 54 (.s 47) (.s 53) (.c (.bool false)) }] none false [0, 2, 7, 54] [2])
  (.cond (.s 54) (.skip [0, 2, 7] [2]) (.exit 0 [0, 2, 7] [2])))
  (.block 1 (.region [{ op := .mov 55 (.s 7) true },
    { op := .mov 56 (.s 0) false },
    { op := .mov 57 (.s 7) false },
    { op := .len 58 false (.s 57) },
    { op := .idxS 59 (.s 56) (.s 58) },
    { op := .call (some 60) 28 [(.s 59)] },
    { op := .bslice 61 1 5 [(.s 60)] },
    { op := .append 62 1 5 1 (.s 55) (.s 61) },
    { op := .mov 7 (.s 62) true }] none false [0, 2, 7] [2])))
def a16_l1 : ACode := (.seq (.seq (.region [{ op := .mov 99 (.s 12) false },
    { op := .mov 100 (.s 11) false },
    { op := .len 101 false (.s 100) },
    { op := .bin 102 .lss (.s 99) (.s 101) }] none false [0, 2, 11, 12, 102] [2])
  (.cond (.s 102) (.skip [0, 2, 11, 12] [2]) (.exit 3 [2] [2])))
  (.seq (.block 4 (.seq (.region [{ op := .mov 105 (.s 0) false },
    { op := .len 106 true (.s 105) },
    { op := .mov 107 (.s 11) false },
    { op := .mov 108 (.s 12) false },
    { op := .iaddrS 109 1 (.s 107) (.s 108) },
    { op := .load 110 1 false (.s 109), blk := some 99999 },
    { op := .len 111 true (.s 110) },
    { op := .bin 112 .geq (.s 106) (.s 111) },
    { op := .mov 113 (.s 112) false },
    { op := .mov 114 (.s 0) false, gd := some (113, true) },
    { op := .mov 115 (.s 11) false, gd := some (113, true) },
    { op := .mov 116 (.s 12) false, gd := some (113, true) },
    { op := .iaddrS 117 1 (.s 115) (.s 116), gd := some (113, true) },
    { op := .load 118 1 false (.s 117), gd := some (113, true), blk := some 99999 },
    { op := .len 119 true (.s 118), gd := some (113, true) },
    { op := .sliceS 120 (.s 114) none (some (.s 119)), gd := some (113, true) },
    { op := .mov 121 (.s 11) false, gd := some (113, true) },
    { op := .mov 122 (.s 12) false, gd := some (113, true) },
    { op := .iaddrS 123 1 (.s 121) (.s 122), gd := some (113, true) },
    { op := .load 124 1 false (.s 123), gd := some (113, true), blk := some 99999 },
    { op := .bin 125 .eql (.s 120) (.s 124), gd := some (113, true) },
    { op := .pick 126 (.s 113) (.s 125) (.c (.bool false)) }] (some [0, 1, 0, 0, 12, 28, 60, 127, 255, 511, 511, 511, 3583, 7679, 15871, 32767, 511, 511, 197119, 459263, 1048575, 2097151]) true [0, 2, 11, 12, 126] [2])
  (.cond (.s 126) (.seq (.region [{ op := .mov 127 (.s 11) false },
    { op := .mov 128 (.s 12) false },
    { op := .iaddrS 129 1 (.s 127) (.s 128) },
    { op := .load 130 1 false (.s 129), blk := some 99999 },
    { op := .build 131 [.int .i64 0, .str ⟨#[]⟩, .int .i64 0] [(0, 1, (.c (.int .i64 5))), (1, 1, (.s 130))] },
    { op := .mov 132 (.s 11) false },
    { op := .mov 133 (.s 12) false },
    { op := .iaddrS 134 1 (.s 132) (.s 133) },
    { op := .load 135 1 false (.s 134), blk := some 99999 },
    { op := .len 136 true (.s 135) },
    { op := .store (.s 2) (.s 131) 3 false, blk := some 2 },
    { op := .mov 3 (.s 136) false }] (some [0, 0, 3, 7, 15, 0, 0, 96, 224, 480, 31, 2047]) true [2, 3] [2])
  .ret) (.skip [0, 2, 11, 12] [2]))))
  (.region [{ op := .mov 103 (.s 12) false },
    { op := .bin 104 .add (.s 103) (.c (.int .i64 1)) },
    { op := .mov 12 (.s 104) false }] none false [0, 2, 11, 12] [2])))
def a16 : AFun := { n := 1, N := 138, res := [.cell 2 3 true, .tmp 3], body :=
  (.seq (.region [{ op := .alloc 2 false [.int .i64 0, .str ⟨#[]⟩, .int .i64 0] [] },
    { op := .mov 3 (.c (.int .i64 0)) false }] none false [0, 2] [2])
  (.seq (.seq (.region [{ op := .mov 13 (.s 0) false },
    { op := .idxS 14 (.s 13) (.c (.int .i64 0)) },
    { op := .bin 15 .eql (.s 14) (.c (.int .u8 39)) }] none false [0, 2, 15] [2])
  (.cond (.s 15) (.seq (.region [{ op := .mov 16 (.s 0) false },
    { op := .call (some 17) 25 [(.s 16)] },
    { op := .mov 4 (.s 17) false }] none false [0, 2, 4] [2])
  (.seq (.region [{ op := .mov 19 (.s 0) false },
    { op := .mov 20 (.s 4) false },
    { op := .sliceS 21 (.s 19) none (some (.s 20)) },
    { op := .call (some 22) 26 [(.s 21)] },
    { op := .mov 18 (.s 22) false },
    { op := .extract 23 (.s 18) 0 },
    { op := .extract 24 (.s 18) 1 },
    { op := .alloc 5 false [.int .i64 0, .int .i64 0, .str ⟨#[]⟩] [] },
    { op := .store (.s 5) (.s 23) 3 false },
    { op := .mov 6 (.s 24) false }] none false [0, 2, 4, 5, 6] [2, 5])
  (.seq (.seq (.region [{ op := .mov 25 (.s 4) false },
    { op := .bin 26 .eql (.s 25) (.c (.int .i64 0)) },
    { op := .mov 27 (.s 26) false },
    { op := .mov 28 (.s 6) false, gd := some (27, false) },
    { op := .un 29 .not (.s 28), gd := some (27, false) },
    { op := .pick 30 (.s 27) (.c (.bool true)) (.s 29) },
    { op := .mov 31 (.s 30) false },
    { op := .faddr 32 0 (.s 5), gd := some (31, false) },
    { op := .load 33 1 false (.s 32), gd := some (31, false) },
    { op := .bin 34 .neq (.s 33) (.c (.int .i64 3)), gd := some (31, false) },
    { op := .pick 35 (.s 31) (.c (.bool true)) (.s 34) }] none false [0, 2, 4, 35] [2])
  (.cond (.s 35) (.seq (.region [{ op := .build 36 [.int .i64 0, .str ⟨#[]⟩, .int .i64 0] [] },
    { op := .store (.s 2) (.s 36) 3 false },
    { op := .mov 3 (.c (.int .i64 0)) false }] none false [2, 3] [2])
  .ret) (.skip [0, 2, 4] [2])))
  (.seq (.region [{ op := .mov 37 (.s 0) false },
    { op := .mov 38 (.s 4) false },
    { op := .sliceS 39 (.s 37) none (some (.s 38)) },
    { op := .build 40 [.int .i64 0, .str ⟨#[]⟩, .int .i64 0] [(0, 1, (.c (.int .i64 4))), (1, 1, (.s 39))] },
    { op := .mov 41 (.s 4) false },
    { op := .store (.s 2) (.s 40) 3 false },
    { op := .mov 3 (.s 41) false }] none false [2, 3] [2])
  .ret)))) (.skip [0, 2] [2])))
  (.seq (.region [{ op := .nils 7 1 5 }] none false [0, 2, 7] [2])
  (.seq (.block 0 (.loop a16_l0))
  (.seq (.region [{ op := .mov 63 (.s 7) true },
    { op := .convB 64 (.s 63) },
    { op := .mov 8 (.s 64) false }] none false [0, 2, 8] [2])
  (.seq (.block 2 (.seq (.region [{ op := .mov 82 (.s 8) false },
    { op := .bin 83 .eql (.s 82) (.c (.str ⟨#[]⟩)) },
    { op := .mov 81 (.s 83) false }] none false [0, 2, 8, 81] [2])
  (.cond (.s 81) (.skip [0, 2] [2]) (.seq (.region [{ op := .mov 85 (.s 8) false },
    { op := .call (some 86) 14 [(.s 85)] },
    { op := .mov 84 (.s 86) false }] none false [2, 8, 84] [2])
  (.cond (.s 84) (.seq (.region [{ op := .mov 87 (.s 8) false },
    { op := .build 88 [.int .i64 0, .str ⟨#[]⟩, .int .i64 0] [(0, 1, (.c (.int .i64 1))), (1, 1, (.s 87))] },
    { op := .mov 89 (.s 8) false },
    { op := .len 90 true (.s 89) },
    { op := .store (.s 2) (.s 88) 3 false },
    { op := .mov 3 (.s 90) false }] none false [2, 3] [2])
  .ret) (.seq (.region [{ op := .mov 92 (.s 8) false },
    { op := .call (some 93) 29 [(.s 92)] },
    { op := .mov 91 (.s 93) false }] none false [2, 8, 91] [2])
  (.cond (.s 91) (.seq (.region [{ op := .mov 94 (.s 8) false },
    { op := .build 95 [.int .i64 0, .str ⟨#[]⟩, .int .i64 0] [(0, 1, (.c (.int .i64 2))), (1, 1, (.s 94))] },
    { op := .mov 96 (.s 8) false },
    { op := .len 97 true (.s 96) },
    { op := .store (.s 2) (.s 95) 3 false },
    { op := .mov 3 (.s 97) false }] none false [2, 3] [2])
  .ret) (.seq (.region [{ op := .mov 66 (.s 8) false },
    { op := .call (some 67) 30 [(.s 66)] },
    { op := .mov 65 (.s 67) false },
    { op := .extract 68 (.s 65) 0 },
    { op := .extract 69 (.s 65) 1 },
    { op := .mov 9 (.s 68) false },
    { op := .mov 10 (.s 69) false }] none false [2, 8, 9, 10] [2])
  (.seq (.seq (.region [{ op := .mov 70 (.s 10) false },
    { op := .un 71 .not (.s 70) },
    { op := .mov 72 (.s 71) false },
    { op := .mov 73 (.s 9) false, gd := some (72, false) },
    { op := .bin 74 .lss (.s 73) (.c (.int .i64 0)), gd := some (72, false) },
    { op := .pick 75 (.s 72) (.c (.bool true)) (.s 74) }] none false [2, 8, 75] [2])
  (.cond (.s 75) (.seq (.region [{ op := .build 76 [.int .i64 0, .str ⟨#[]⟩, .int .i64 0] [] },
    { op := .store (.s 2) (.s 76) 3 false },
    { op := .mov 3 (.c (.int .i64 0)) false }] none false [2, 3] [2])
  .ret) (.skip [2, 8] [2])))
  (.seq (.region [{ op := .mov 77 (.s 8) false },
    { op := .build 78 [.int .i64 0, .str ⟨#[]⟩, .int .i64 0] [(0, 1, (.c (.int .i64 3))), (1, 1, (.s 77))] },
    { op := .mov 79 (.s 8) false },
    { op := .len 80 true (.s 79) },
    { op := .store (.s 2) (.s 78) 3 false },
    { op := .mov 3 (.s 80) false }] none false [2, 3] [2])
  .ret))))))))))
  (.seq (.region [{ op := .call (some 98) 31 [] },
    { op := .mov 11 (.s 98) true }] none false [0, 2, 11] [2])
  (.seq (.seq (.region [{ op := .mov 12 (.c (.int .i64 0)) false }] none false [0, 2, 11, 12] [2])
  (.block 3 (.loop a16_l1)))
  (.seq (.region [{ op := .build 137 [.int .i64 0, .str ⟨#[]⟩, .int .i64 0] [] },
    { op := .store (.s 2) (.s 137) 3 false },
    { op := .mov 3 (.c (.int .i64 0)) false }] none false [2, 3] [2])
  .ret))))))))) }

-- tactician/lexicon.Words
def a17 : AFun := { n := 0, N := 2, res := [.tmp 0], body :=
  (.seq (.region [{ op := .nils 0 1 9 }] none false [] [])
  (.seq (.region [{ op := .call (some 1) 32 [(.c (.str ⟨#[97, 108, 108, 32, 97, 110, 100, 32, 97, 115, 32, 97, 115, 99, 32, 98, 101, 116, 119, 101, 101, 110, 32, 98, 121, 32, 99, 97, 115, 101, 32, 99, 114, 111, 115, 115, 32, 100, 101, 115, 99, 32, 100, 105, 115, 116, 105, 110, 99, 116, 32, 101, 108, 115, 101, 32, 101, 110, 100, 32, 101, 120, 99, 101, 112, 116, 32, 101, 120, 105, 115, 116, 115, 32, 102, 97, 108, 115, 101, 32, 102, 114, 111, 109, 32, 102, 117, 108, 108, 32, 103, 114, 111, 117, 112, 32, 104, 97, 118, 105, 110, 103, 32, 105, 110, 32, 105, 110, 110, 101, 114, 32, 105, 110, 116, 101, 114, 115, 101, 99, 116, 32, 105, 115, 32, 106, 111, 105, 110, 32, 108, 101, 102, 116, 32, 108, 105, 109, 105, 116, 32, 110, 111, 116, 32, 110, 117, 108, 108, 32, 111, 102, 102, 115, 101, 116, 32, 111, 110, 32, 111, 114, 32, 111, 114, 100, 101, 114, 32, 111, 117, 116, 101, 114, 32, 114, 105, 103, 104, 116, 32, 115, 101, 108, 101, 99, 116, 32, 116, 104, 101, 110, 32, 116, 114, 117, 101, 32, 117, 110, 105, 111, 110, 32, 118, 97, 108, 117, 101, 115, 32, 119, 104, 101, 110, 32, 119, 104, 101, 114, 101]⟩))] },
    { op := .mov 0 (.s 1) true }] none false [0] [])
  .ret)) }

-- tactician/tacticianref05.Words
def a18 : AFun := { n := 0, N := 2, res := [.tmp 0], body :=
  (.seq (.region [{ op := .nils 0 1 9 }] none false [] [])
  (.seq (.region [{ op := .bslice 1 1 9 [(.c (.str ⟨#[97, 108, 108]⟩)), (.c (.str ⟨#[97, 110, 100]⟩)), (.c (.str ⟨#[97, 115]⟩)), (.c (.str ⟨#[97, 115, 99]⟩)), (.c (.str ⟨#[98, 101, 116, 119, 101, 101, 110]⟩)), (.c (.str ⟨#[98, 121]⟩)), (.c (.str ⟨#[99, 97, 115, 101]⟩)), (.c (.str ⟨#[99, 114, 111, 115, 115]⟩)), (.c (.str ⟨#[100, 101, 115, 99]⟩)), (.c (.str ⟨#[100, 105, 115, 116, 105, 110, 99, 116]⟩)), (.c (.str ⟨#[101, 108, 115, 101]⟩)), (.c (.str ⟨#[101, 110, 100]⟩)), (.c (.str ⟨#[101, 120, 99, 101, 112, 116]⟩)), (.c (.str ⟨#[101, 120, 105, 115, 116, 115]⟩)), (.c (.str ⟨#[102, 97, 108, 115, 101]⟩)), (.c (.str ⟨#[102, 114, 111, 109]⟩)), (.c (.str ⟨#[102, 117, 108, 108]⟩)), (.c (.str ⟨#[103, 114, 111, 117, 112]⟩)), (.c (.str ⟨#[104, 97, 118, 105, 110, 103]⟩)), (.c (.str ⟨#[105, 110]⟩)), (.c (.str ⟨#[105, 110, 110, 101, 114]⟩)), (.c (.str ⟨#[105, 110, 116, 101, 114, 115, 101, 99, 116]⟩)), (.c (.str ⟨#[105, 115]⟩)), (.c (.str ⟨#[106, 111, 105, 110]⟩)), (.c (.str ⟨#[108, 101, 102, 116]⟩)), (.c (.str ⟨#[108, 105, 109, 105, 116]⟩)), (.c (.str ⟨#[110, 111, 116]⟩)), (.c (.str ⟨#[110, 117, 108, 108]⟩)), (.c (.str ⟨#[111, 102, 102, 115, 101, 116]⟩)), (.c (.str ⟨#[111, 110]⟩)), (.c (.str ⟨#[111, 114]⟩)), (.c (.str ⟨#[111, 114, 100, 101, 114]⟩)), (.c (.str ⟨#[111, 117, 116, 101, 114]⟩)), (.c (.str ⟨#[114, 105, 103, 104, 116]⟩)), (.c (.str ⟨#[115, 101, 108, 101, 99, 116]⟩)), (.c (.str ⟨#[116, 104, 101, 110]⟩)), (.c (.str ⟨#[116, 114, 117, 101]⟩)), (.c (.str ⟨#[117, 110, 105, 111, 110]⟩)), (.c (.str ⟨#[118, 97, 108, 117, 101, 115]⟩)), (.c (.str ⟨#[119, 104, 101, 110]⟩)), (.c (.str ⟨#[119, 104, 101, 114, 101]⟩))] },
    { op := .mov 0 (.s 1) true }] none false [0] [])
  .ret)) }

-- tactician/lexicon.Set
def a19_l0 : ACode := (.seq (.region [{ op := .bin 8 .lss (.s 7) (.s 6) }] none false [1, 5, 6, 7, 8] [])
  (.seq (.cond (.s 8) (.skip [1, 5, 6, 7] []) (.exit 0 [1] []))
  (.seq (.block 1 (.seq (.region [{ op := .iaddrS 9 1 (.s 5) (.s 7) },
    { op := .load 10 1 false (.s 9) },
    { op := .mov 3 (.s 10) false }] none false [1, 3, 5, 6, 7] [])
  (.region [{ op := .mov 11 (.s 1) false },
    { op := .mov 12 (.s 3) false },
    { op := .mapUpd none (.s 11) (.s 12) (.c (.bool true)) }] none false [1, 5, 6, 7] [])))
  (.region [{ op := .bin 13 .add (.s 7) (.c (.int .i64 1)) },
    { op := .mov 7 (.s 13) false }] none false [1, 5, 6, 7] []))))
def a19 : AFun := { n := 0, N := 15, res := [.tmp 0], keepB := 1, body :=
  (.seq (.region [{ op := .mov 0 (.c (.nilmap)) false }] none false [] [])
  (.seq (.region [{ op := .makeMap 4 },
    { op := .mov 1 (.s 4) false }] none false [1] [])
  (.seq (.seq (.region [{ op := .call (some 5) 17 [] },
    { op := .len 6 false (.s 5) },
    { op := .mov 7 (.c (.int .i64 0)) false }] none false [1, 5, 6, 7] [])
  (.block 0 (.loop a19_l0)))
  (.seq (.region [{ op := .mov 14 (.s 1) false },
    { op := .mov 0 (.s 14) false }] none false [0] [])
  .ret)))) }

-- tactician/lexicon.IsName
def a20 : AFun := { n := 1, N := 11, res := [.tmp 2], body :=
  (.seq (.region [{ op := .mov 2 (.c (.bool false)) false }] none false [0] [])
  (.seq (.region [{ op := .mov 3 (.s 0) false },
    { op := .call (some 4) 33 [(.s 3)] },
    { op := .mov 5 (.s 4) false },
    { op := .call (some 6) 19 [], gd := some (5, true) },
    { op := .mov 7 (.s 0) false, gd := some (5, true) },
    { op := .lookup 8 false none (.bool false) (.s 6) (.s 7), gd := some (5, true) },
    { op := .un 9 .not (.s 8), gd := some (5, true) },
    { op := .pick 10 (.s 5) (.s 9) (.c (.bool false)) },
    { op := .mov 2 (.s 10) false }] none false [2] [])
  .ret)) }

-- tactician/tacticianref05.IsName
def a21 : AFun := { n := 1, N := 10, res := [.tmp 2], body :=
  (.seq (.region [{ op := .mov 2 (.c (.bool false)) false }] none false [0] [])
  (.seq (.region [{ op := .mov 3 (.s 0) false },
    { op := .call (some 4) 29 [(.s 3)] },
    { op := .mov 5 (.s 4) false },
    { op := .mov 6 (.s 0) false, gd := some (5, true) },
    { op := .call (some 7) 22 [(.s 6)], gd := some (5, true) },
    { op := .un 8 .not (.s 7), gd := some (5, true) },
    { op := .pick 9 (.s 5) (.s 8) (.c (.bool false)) },
    { op := .mov 2 (.s 9) false }] none false [2] [])
  .ret)) }

-- tactician/tacticianref05.IsWord
def a22_l0 : ACode := (.seq (.seq (.region [{ op := .mov 6 (.s 4) false },
    { op := .mov 7 (.s 3) false },
    { op := .len 8 false (.s 7) },
    { op := .bin 9 .lss (.s 6) (.s 8) }] none false [0, 3, 4, 9] [])
  (.cond (.s 9) (.skip [0, 3, 4] []) (.exit 0 [] [])))
  (.seq (.block 1 (.seq (.region [{ op := .mov 12 (.s 3) false },
    { op := .mov 13 (.s 4) false },
    { op := .iaddrS 14 1 (.s 12) (.s 13) },
    { op := .load 15 1 false (.s 14) },
    { op := .mov 16 (.s 0) false },
    { op := .bin 17 .eql (.s 15) (.s 16) }] none false [0, 3, 4, 17] [])
  (.cond (.s 17) (.seq (.region [{ op := .mov 2 (.c (.bool true)) false }] none false [2] [])
  .ret) (.skip [0, 3, 4] []))))
  (.region [{ op := .mov 10 (.s 4) false },
    { op := .bin 11 .add (.s 10) (.c (.int .i64 1)) },
    { op := .mov 4 (.s 11) false }] none false [0, 3, 4] [])))
def a22 : AFun := { n := 1, N := 18, res := [.tmp 2], body :=
  (.seq (.region [{ op := .mov 2 (.c (.bool false)) false }] none false [0] [])
  (.seq (.region [{ op := .call (some 5) 18 [] },
    { op := .mov 3 (.s 5) true }] none false [0, 3] [])
  (.seq (.seq (.region [{ op := .mov 4 (.c (.int .i64 0)) false }] none false [0, 3, 4] [])
  (.block 0 (.loop a22_l0)))
  (.seq (.region [{ op := .mov 2 (.c (.bool false)) false }] none false [2] [])
  .ret)))) }

-- tactician/token.tokens$1
def a23_l0 : ACode := (.seq (.seq (.region [{ op := .mov 8 (.s 4) false },
    { op := .load 9 1 false (.s 1) },
    { op := .len 10 true (.s 9) },
    { op := .bin 11 .lss (.s 8) (.s 10) }] none false [0, 1, 3, 4, 11] [])
  (.cond (.s 11) (.skip [0, 1, 3, 4] []) (.exit 0 [] [])))
  (.block 1 (.seq (.seq (.region [{ op := .load 12 1 false (.s 1) },
    { op := .mov 13 (.s 4) false },
    { op := .idxS 14 (.s 12) (.s 13) }] none false [0, 1, 3, 4, 14] [])
  (.block 2 (.seq (.seq (.region [{ op := .bin 16 .eql (.s 14) (.c (.int .u8 32)) },
    { op := .mov 15 (.s 16) false }] none false [0, 1, 3, 4, 14, 15] [])
  (.cond (.s 15) (.skip [0, 1, 3, 4, 15] []) (.region [{ op := .bin 17 .eql (.s 14) (.c (.int .u8 10)) },
    { op := .mov 15 (.s 17) false }] none false [0, 1, 3, 4, 15] [])))
  (.cond (.s 15) (.seq (.region [{ op := .mov 18 (.s 4) false },
    { op := .bin 19 .add (.s 18) (.c (.int .i64 1)) },
    { op := .mov 4 (.s 19) false }] none false [0, 1, 3, 4] [])
  (.exit 1 [0, 1, 3, 4] [])) (.skip [0, 1, 3, 4] [])))))
  (.seq (.region [{ op := .load 21 1 false (.s 1) },
    { op := .mov 22 (.s 4) false },
    { op := .sliceS 23 (.s 21) (some (.s 22)) none },
    { op := .mov 24 (.s 3) false },
    { op := .call (some 25) 24 [(.s 23), (.s 24)] },
    { op := .mov 20 (.s 25) false },
    { op := .extract 26 (.s 20) 0 },
    { op := .extract 27 (.s 20) 1 },
    { op := .alloc 5 false [.int .i64 0, .str ⟨#[]⟩, .int .i64 0] [] },
    { op := .store (.s 5) (.s 26) 3 false },
    { op := .mov 6 (.s 27) false }] none false [0, 1, 3, 4, 5, 6] [5])
  (.seq (.region [{ op := .mov 28 (.s 4) false },
    { op := .faddr 29 2 (.s 5) },
    { op := .store (.s 29) (.s 28) 1 false }] none false [0, 1, 3, 4, 5, 6] [5])
  (.seq (.seq (.region [{ op := .mov 30 (.s 0) false },
    { op := .load 31 3 true (.s 5) },
    { op := .mov 32 (.s 6) false },
    { op := .bin 33 .gtr (.s 32) (.c (.int .i64 0)) },
    { op := .callv (some 34) (.s 30) [(.s 31), (.s 33)] },
    { op := .un 35 .not (.s 34) },
    { op := .mov 36 (.s 35) false },
    { op := .mov 37 (.s 6) false, gd := some (36, false) },
    { op := .bin 38 .eql (.s 37) (.c (.int .i64 0)), gd := some (36, false) },
    { op := .pick 39 (.s 36) (.c (.bool true)) (.s 38) }] none false [0, 1, 3, 4, 6, 39] [])
  (.cond (.s 39) (.exit 0 [] []) (.skip [0, 1, 3, 4, 6] [])))
  (.region [{ op := .mov 40 (.s 4) false },
    { op := .mov 41 (.s 6) false },
    { op := .bin 42 .add (.s 40) (.s 41) },
    { op := .mov 4 (.s 42) false }] none false [0, 1, 3, 4] [])))))))
def a23 : AFun := { n := 2, N := 43, res := [], body :=
  (.scope (.seq (.region [{ op := .call (some 7) 19 [] },
    { op := .mov 3 (.s 7) false }] none false [0, 1, 3] [])
  (.seq (.region [{ op := .mov 4 (.c (.int .i64 0)) false }] none false [0, 1, 3, 4] [])
  (.seq .label
  (.block 0 (.loop a23_l0)))))) }

-- tactician/token.next
def a24_l0 : ACode := (.seq (.region [{ op := .bin 19 .lss (.s 18) (.c (.int .i64 17)) }] none false [0, 1, 4, 17, 18, 19] [4])
  (.seq (.cond (.s 19) (.skip [0, 1, 4, 17, 18] [4]) (.exit 0 [0, 1, 4] [4]))
  (.seq (.block 1 (.seq (.region [{ op := .idxA 20 17 1 false (.s 17) (.s 18) },
    { op := .mov 8 (.s 20) false }] none false [0, 1, 4, 8, 17, 18] [4])
  (.seq (.region [{ op := .mov 21 (.s 0) false },
    { op := .mov 22 (.s 8) false },
    { op := .call (some 23) 34 [(.s 21), (.s 22)] }] none false [0, 1, 4, 8, 17, 18, 23] [4])
  (.cond (.s 23) (.seq (.region [{ op := .mov 24 (.s 8) false },
    { op := .build 25 [.int .i64 0, .str ⟨#[]⟩, .int .i64 0] [(0, 1, (.c (.int .i64 5))), (1, 1, (.s 24))] },
    { op := .mov 26 (.s 8) false },
    { op := .len 27 true (.s 26) },
    { op := .store (.s 4) (.s 25) 3 false },
    { op := .mov 5 (.s 27) false }] none false [4, 5] [4])
  .ret) (.skip [0, 1, 4, 17, 18] [4])))))
  (.region [{ op := .bin 28 .add (.s 18) (.c (.int .i64 1)) },
    { op := .mov 18 (.s 28) false }] none false [0, 1, 4, 17, 18] [4]))))
def a24_l1 : ACode := (.seq (.seq (.region [{ op := .mov 53 (.s 12) false },
    { op := .mov 54 (.s 0) false },
    { op := .len 55 true (.s 54) },
    { op := .bin 56 .lss (.s 53) (.s 55) },
    { op := .mov 57 (.s 56) false },
    { op := .mov 58 (.s 0) false, gd := some (57, true) },
    { op := .mov 59 (.s 12) false, gd := some (57, true) },
    { op := .idxS 60 (.s 58) (.s 59), gd := some (57, true) },
    { op := .call (some 61) 38 [(.s 60)], gd := some (57, true) },
    { op := .call (some 62) 37 [(.s 61)], gd := some (57, true) },
    { op := .pick 63 (.s 57) (.s 62) (.c (.bool false)) }] none false [0, 1, 4, 12, 63] [4])
  (.cond (.s 63) (.skip [0, 1, 4, 12] [4]) (.exit 2 [0, 1, 4, 12] [4])))
  (.block 3 (.region [{ op := .mov 64 (.s 12) false },
    { op := .bin 65 .add (.s 64) (.c (.int .i64 1)) },
    { op := .mov 12 (.s 65) false }] none false [0, 1, 4, 12] [4])))
def a24 : AFun := { n := 2, N := 110, res := [.cell 4 3 true, .tmp 5], body :=
  (.seq (.region [{ op := .alloc 4 false [.int .i64 0, .str ⟨#[]⟩, .int .i64 0] [] },
    { op := .mov 5 (.c (.int .i64 0)) false }] none false [0, 1, 4] [4])
  (.seq (.region [{ op := .build 16 (List.replicate 17 (.str ⟨#[]⟩)) [(0, 1, (.c (.str ⟨#[60, 61]⟩))), (1, 1, (.c (.str ⟨#[62, 61]⟩))), (2, 1, (.c (.str ⟨#[60, 62]⟩))), (3, 1, (.c (.str ⟨#[124, 124]⟩))), (4, 1, (.c (.str ⟨#[40]⟩))), (5, 1, (.c (.str ⟨#[41]⟩))), (6, 1, (.c (.str ⟨#[44]⟩))), (7, 1, (.c (.str ⟨#[46]⟩))), (8, 1, (.c (.str ⟨#[42]⟩))), (9, 1, (.c (.str ⟨#[43]⟩))), (10, 1, (.c (.str ⟨#[45]⟩))), (11, 1, (.c (.str ⟨#[47]⟩))), (12, 1, (.c (.str ⟨#[37]⟩))), (13, 1, (.c (.str ⟨#[61]⟩))), (14, 1, (.c (.str ⟨#[60]⟩))), (15, 1, (.c (.str ⟨#[62]⟩))), (16, 1, (.c (.str ⟨#[59]⟩)))] },
    { op := .alloc 6 false (List.replicate 17 (.str ⟨#[]⟩)) [] },
    { op := .store (.s 6) (.s 16) 17 false }] none false [0, 1, 4, 6] [4, 6])
  (.seq (.seq (.region [{ op := .load 17 17 true (.s 6) },
    { op := .mov 18 (.c (.int .i64 0)) false }] none false [0, 1, 4, 17, 18] [4])
  (.block 0 (.loop a24_l0)))
  (.seq (.seq (.region [{ op := .mov 29 (.s 0) false },
    { op := .idxS 30 (.s 29) (.c (.int .i64 0)) },
    { op := .bin 31 .eql (.s 30) (.c (.int .u8 39)) }] none false [0, 1, 4, 31] [4])
  (.cond (.s 31) (.seq (.region [{ op := .mov 32 (.s 0) false },
    { op := .call (some 33) 35 [(.s 32)] },
    { op := .mov 9 (.s 33) false }] none false [0, 4, 9] [4])
  (.seq (.seq (.region [{ op := .mov 35 (.s 0) false },
    { op := .mov 36 (.s 9) false },
    { op := .sliceS 37 (.s 35) none (some (.s 36)) },
    { op := .call (some 38) 36 [(.s 37)] },
    { op := .mov 34 (.s 38) false },
    { op := .extract 39 (.s 34) 0 },
    { op := .extract 40 (.s 34) 1 },
    { op := .alloc 10 false [.int .i64 0, .int .i64 0, .str ⟨#[]⟩] [] },
    { op := .store (.s 10) (.s 39) 3 false },
    { op := .mov 11 (.s 40) false }] none false [0, 4, 9, 11] [4])
  (.seq (.region [{ op := .mov 41 (.s 9) false },
    { op := .bin 42 .eql (.s 41) (.c (.int .i64 0)) },
    { op := .mov 43 (.s 42) false },
    { op := .mov 44 (.s 11) false, gd := some (43, false) },
    { op := .un 45 .not (.s 44), gd := some (43, false) },
    { op := .pick 46 (.s 43) (.c (.bool true)) (.s 45) }] none false [0, 4, 9, 46] [4])
  (.cond (.s 46) (.seq (.region [{ op := .build 47 [.int .i64 0, .str ⟨#[]⟩, .int .i64 0] [] },
    { op := .store (.s 4) (.s 47) 3 false },
    { op := .mov 5 (.c (.int .i64 0)) false }] none false [4, 5] [4])
  .ret) (.skip [0, 4, 9] [4]))))
  (.seq (.region [{ op := .mov 48 (.s 0) false },
    { op := .mov 49 (.s 9) false },
    { op := .sliceS 50 (.s 48) none (some (.s 49)) },
    { op := .build 51 [.int .i64 0, .str ⟨#[]⟩, .int .i64 0] [(0, 1, (.c (.int .i64 4))), (1, 1, (.s 50))] },
    { op := .mov 52 (.s 9) false },
    { op := .store (.s 4) (.s 51) 3 false },
    { op := .mov 5 (.s 52) false }] none false [4, 5] [4])
  .ret))) (.skip [0, 1, 4] [4])))
  (.seq (.region [{ op := .mov 12 (.c (.int .i64 0)) false }] none false [0, 1, 4, 12] [4])
  (.seq (.block 2 (.loop a24_l1))
  (.seq (.region [{ op := .mov 66 (.s 0) false },
    { op := .mov 67 (.s 12) false },
    { op := .sliceS 68 (.s 66) none (some (.s 67)) },
    { op := .call (some 69) 39 [(.c (.clos (.func 40) [] [])), (.s 68)] },
    { op := .build 70 [.int .i64 0, .str ⟨#[]⟩, .int .i64 0] [(0, 1, (.c (.int .i64 2))), (1, 1, (.s 69))] },
    { op := .alloc 13 false [.int .i64 0, .str ⟨#[]⟩, .int .i64 0] [] },
    { op := .store (.s 13) (.s 70) 3 false }] none false [0, 1, 4, 12, 13] [4, 13])
  (.seq (.block 4 (.seq (.region [{ op := .mov 72 (.s 12) false },
    { op := .bin 73 .eql (.s 72) (.c (.int .i64 0)) },
    { op := .mov 71 (.s 73) false }] none false [0, 1, 4, 12, 13, 71] [4, 13])
  (.cond (.s 71) (.seq (.region [{ op := .build 74 [.int .i64 0, .str ⟨#[]⟩, .int .i64 0] [] },
    { op := .store (.s 4) (.s 74) 3 false },
    { op := .mov 5 (.c (.int .i64 0)) false }] none false [4, 5] [4])
  .ret) (.seq (.region [{ op := .mov 76 (.s 0) false },
    { op := .idxS 77 (.s 76) (.c (.int .i64 0)) },
    { op := .call (some 78) 41 [(.s 77)] },
    { op := .mov 75 (.s 78) false }] none false [1, 4, 12, 13, 75] [4, 13])
  (.cond (.s 75) (.seq (.region [{ op := .faddr 80 1 (.s 13) },
    { op := .load 81 1 false (.s 80) },
    { op := .call (some 82) 42 [(.s 81), (.c (.int .i64 10)), (.c (.int .i64 64))] },
    { op := .mov 79 (.s 82) false },
    { op := .extract 83 (.s 79) 0 },
    { op := .extract 84 (.s 79) 1 },
    { op := .mov 14 (.s 83) false },
    { op := .mov 15 (.s 84) false }] none false [4, 12, 13, 14, 15] [4, 13])
  (.seq (.seq (.region [{ op := .mov 85 (.s 15) false },
    { op := .eqnil 86 true 2 (.s 85) },
    { op := .mov 87 (.s 86) false },
    { op := .mov 88 (.s 14) false, gd := some (87, false) },
    { op := .call (some 89) 43 [(.s 88), (.c (.int .i64 10))], gd := some (87, false) },
    { op := .faddr 90 1 (.s 13), gd := some (87, false) },
    { op := .load 91 1 false (.s 90), gd := some (87, false), blk := some 13 },
    { op := .bin 92 .neq (.s 89) (.s 91), gd := some (87, false) },
    { op := .pick 93 (.s 87) (.c (.bool true)) (.s 92) }] (some [0, 1, 3, 7, 15, 7, 39, 127, 255]) true [4, 12, 13, 93] [4, 13])
  (.cond (.s 93) (.seq (.region [{ op := .build 94 [.int .i64 0, .str ⟨#[]⟩, .int .i64 0] [] },
    { op := .store (.s 4) (.s 94) 3 false },
    { op := .mov 5 (.c (.int .i64 0)) false }] none false [4, 5] [4])
  .ret) (.skip [4, 12, 13] [4, 13])))
  (.region [{ op := .faddr 95 0 (.s 13) },
    { op := .store (.s 95) (.c (.int .i64 3)) 1 false }] none false [4, 12, 13] [4, 13]))) (.seq (.region [{ op := .mov 97 (.s 1) false },
    { op := .faddr 98 1 (.s 13) },
    { op := .load 99 1 false (.s 98) },
    { op := .lookup 100 false none (.bool false) (.s 97) (.s 99) },
    { op := .mov 96 (.s 100) false }] none false [4, 12, 13, 96] [4, 13])
  (.cond (.s 96) (.region [{ op := .faddr 101 0 (.s 13) },
    { op := .store (.s 101) (.c (.int .i64 1)) 1 false }] none false [4, 12, 13] [4, 13]) (.seq (.region [{ op := .faddr 103 1 (.s 13) },
    { op := .load 104 1 false (.s 103) },
    { op := .call (some 105) 33 [(.s 104)] },
    { op := .un 106 .not (.s 105) },
    { op := .mov 102 (.s 106) false }] none false [4, 12, 13, 102] [4, 13])
  (.cond (.s 102) (.seq (.region [{ op := .build 107 [.int .i64 0, .str ⟨#[]⟩, .int .i64 0] [] },
    { op := .store (.s 4) (.s 107) 3 false },
    { op := .mov 5 (.c (.int .i64 0)) false }] none false [4, 5] [4])
  .ret) (.skip [4, 12, 13] [4, 13]))))))))))
  (.seq (.region [{ op := .load 108 3 true (.s 13) },
    { op := .mov 109 (.s 12) false },
    { op := .store (.s 4) (.s 108) 3 false },
    { op := .mov 5 (.s 109) false }] none false [4, 5] [4])
  .ret))))))))) }

-- tactician/tacticianref08.quoted
def a25_l0 : ACode := (.seq (.seq (.region [{ op := .mov 4 (.s 3) false },
    { op := .mov 5 (.s 0) false },
    { op := .len 6 true (.s 5) },
    { op := .bin 7 .lss (.s 4) (.s 6) }] none false [0, 3, 7] [])
  (.cond (.s 7) (.skip [0, 3] []) (.exit 0 [] [])))
  (.block 1 (.seq (.seq (.region [{ op := .mov 8 (.s 0) false },
    { op := .mov 9 (.s 3) false },
    { op := .idxS 10 (.s 8) (.s 9) },
    { op := .bin 11 .neq (.s 10) (.c (.int .u8 39)) }] none false [0, 3, 11] [])
  (.cond (.s 11) (.seq (.region [{ op := .mov 12 (.s 3) false },
    { op := .bin 13 .add (.s 12) (.c (.int .i64 1)) },
    { op := .mov 3 (.s 13) false }] none false [0, 3] [])
  (.exit 1 [0, 3] [])) (.skip [0, 3] [])))
  (.seq (.seq (.region [{ op := .mov 14 (.s 3) false },
    { op := .bin 15 .add (.s 14) (.c (.int .i64 1)) },
    { op := .mov 16 (.s 0) false },
    { op := .len 17 true (.s 16) },
    { op := .bin 18 .geq (.s 15) (.s 17) },
    { op := .mov 19 (.s 18) false },
    { op := .mov 20 (.s 0) false, gd := some (19, false) },
    { op := .mov 21 (.s 3) false, gd := some (19, false) },
    { op := .bin 22 .add (.s 21) (.c (.int .i64 1)), gd := some (19, false) },
    { op := .idxS 23 (.s 20) (.s 22), gd := some (19, false) },
    { op := .bin 24 .neq (.s 23) (.c (.int .u8 39)), gd := some (19, false) },
    { op := .pick 25 (.s 19) (.c (.bool true)) (.s 24) }] none false [0, 3, 25] [])
  (.cond (.s 25) (.seq (.region [{ op := .mov 26 (.s 3) false },
    { op := .bin 27 .add (.s 26) (.c (.int .i64 1)) },
    { op := .mov 2 (.s 27) false }] none false [2] [])
  .ret) (.skip [0, 3] [])))
  (.region [{ op := .mov 28 (.s 3) false },
    { op := .bin 29 .add (.s 28) (.c (.int .i64 2)) },
    { op := .mov 3 (.s 29) false }] none false [0, 3] [])))))
def a25 : AFun := { n := 1, N := 30, res := [.tmp 2], body :=
  (.seq (.region [{ op := .mov 2 (.c (.int .i64 0)) false }] none false [0] [])
  (.seq (.region [{ op := .mov 3 (.c (.int .i64 1)) false }] none false [0, 3] [])
  (.seq (.block 0 (.loop a25_l0))
  (.seq (.region [{ op := .mov 2 (.c (.int .i64 0)) false }] none false [2] [])
  .ret)))) }

-- tactician/tacticianref01.Parse
def a26_l0 : ACode := (.seq (.seq (.region [{ op := .mov 29 (.s 5) false },
    { op := .mov 30 (.s 0) false },
    { op := .len 31 true (.s 30) },
    { op := .bin 32 .sub (.s 31) (.c (.int .i64 1)) },
    { op := .bin 33 .lss (.s 29) (.s 32) },
    { op := .mov 34 (.s 33) false },
    { op := .mov 35 (.s 4) false, gd := some (34, true) },
    { op := .len 36 true (.s 35), gd := some (34, true) },
    { op := .bin 37 .leq (.s 36) (.c (.int .i64 200)), gd := some (34, true) },
    { op := .pick 38 (.s 34) (.s 37) (.c (.bool false)) }] none false [0, 2, 4, 5, 38] [2])
  (.cond (.s 38) (.skip [0, 2, 4, 5] [2]) (.exit 0 [0, 2, 4] [2])))
  (.block 1 (.seq (.region [{ op := .mov 39 (.s 4) false },
    { op := .mov 40 (.s 0) false },
    { op := .mov 41 (.s 5) false },
    { op := .mov 42 (.s 5) false },
    { op := .bin 43 .add (.s 42) (.c (.int .i64 1)) },
    { op := .sliceS 44 (.s 40) (some (.s 41)) (some (.s 43)) },
    { op := .bin 45 .add (.s 39) (.s 44) },
    { op := .mov 4 (.s 45) false }] none false [0, 2, 4, 5] [2])
  (.seq (.seq (.region [{ op := .mov 46 (.s 0) false },
    { op := .mov 47 (.s 5) false },
    { op := .idxS 48 (.s 46) (.s 47) },
    { op := .bin 49 .eql (.s 48) (.c (.int .u8 39)) }] none false [0, 2, 4, 5, 49] [2])
  (.cond (.s 49) (.region [{ op := .mov 50 (.s 5) false },
    { op := .bin 51 .add (.s 50) (.c (.int .i64 1)) },
    { op := .mov 5 (.s 51) false }] none false [0, 2, 4, 5] [2]) (.skip [0, 2, 4, 5] [2])))
  (.region [{ op := .mov 52 (.s 5) false },
    { op := .bin 53 .add (.s 52) (.c (.int .i64 1)) },
    { op := .mov 5 (.s 53) false }] none false [0, 2, 4, 5] [2])))))
def a26 : AFun := { n := 1, N := 73, res := [.cell 2 3 true, .tmp 3], body :=
  (.seq (.region [{ op := .alloc 2 false [.int .i64 0, .int .i64 0, .str ⟨#[]⟩] [] },
    { op := .mov 3 (.c (.bool false)) false }] none false [0, 2] [2])
  (.seq (.seq (.region [{ op := .mov 9 (.s 0) false },
    { op := .bin 10 .eql (.s 9) (.c (.str ⟨#[110, 117, 108, 108]⟩)) }] none false [0, 2, 10] [2])
  (.cond (.s 10) (.seq (.region [{ op := .build 11 [.int .i64 0, .int .i64 0, .str ⟨#[]⟩] [] },
    { op := .store (.s 2) (.s 11) 3 false },
    { op := .mov 3 (.c (.bool true)) false }] none false [2, 3] [2])
  .ret) (.skip [0, 2] [2])))
  (.seq (.seq (.region [{ op := .mov 12 (.s 0) false },
    { op := .bin 13 .eql (.s 12) (.c (.str ⟨#[116, 114, 117, 101]⟩)) },
    { op := .mov 14 (.s 13) false },
    { op := .mov 15 (.s 0) false, gd := some (14, false) },
    { op := .bin 16 .eql (.s 15) (.c (.str ⟨#[102, 97, 108, 115, 101]⟩)), gd := some (14, false) },
    { op := .pick 17 (.s 14) (.c (.bool true)) (.s 16) }] none false [0, 2, 17] [2])
  (.cond (.s 17) (.seq (.region [{ op := .mov 18 (.s 0) false },
    { op := .bin 19 .eql (.s 18) (.c (.str ⟨#[116, 114, 117, 101]⟩)) },
    { op := .call (some 20) 44 [(.s 19)] },
    { op := .store (.s 2) (.s 20) 3 false },
    { op := .mov 3 (.c (.bool true)) false }] none false [2, 3] [2])
  .ret) (.skip [0, 2] [2])))
  (.seq (.seq (.region [{ op := .mov 21 (.s 0) false },
    { op := .len 22 true (.s 21) },
    { op := .bin 23 .gtr (.s 22) (.c (.int .i64 0)) },
    { op := .mov 24 (.s 23) false },
    { op := .mov 25 (.s 0) false, gd := some (24, true) },
    { op := .idxS 26 (.s 25) (.c (.int .i64 0)), gd := some (24, true) },
    { op := .bin 27 .eql (.s 26) (.c (.int .u8 39)), gd := some (24, true) },
    { op := .pick 28 (.s 24) (.s 27) (.c (.bool false)) }] none false [0, 2, 28] [2])
  (.cond (.s 28) (.seq (.region [{ op := .mov 4 (.c (.str ⟨#[]⟩)) false }] none false [0, 2, 4] [2])
  (.seq (.region [{ op := .mov 5 (.c (.int .i64 1)) false }] none false [0, 2, 4, 5] [2])
  (.seq (.block 0 (.loop a26_l0))
  (.seq (.region [{ op := .mov 54 (.s 4) false },
    { op := .call (some 55) 45 [(.s 54)] },
    { op := .alloc 6 false [.int .i64 0, .int .i64 0, .str ⟨#[]⟩] [] },
    { op := .store (.s 6) (.s 55) 3 false }] none false [0, 2, 6] [2, 6])
  (.seq (.region [{ op := .load 56 3 true (.s 6), blk := some 6 },
    { op := .load 57 3 true (.s 6), blk := some 6 },
    { op := .call (some 58) 46 [(.s 57)] },
    { op := .mov 59 (.s 58) false },
    { op := .load 60 3 true (.s 6), gd := some (59, true), blk := some 6 },
    { op := .call (some 61) 47 [(.s 60)], gd := some (59, true) },
    { op := .mov 62 (.s 0) false, gd := some (59, true) },
    { op := .bin 63 .eql (.s 61) (.s 62), gd := some (59, true) },
    { op := .pick 64 (.s 59) (.s 63) (.c (.bool false)) },
    { op := .store (.s 2) (.s 56) 3 false, blk := some 2 },
    { op := .mov 3 (.s 64) false }] (some [0, 0, 2, 6, 14, 30, 14, 126, 254, 63, 1023]) true [2, 3] [2])
  .ret))))) (.skip [0, 2] [2])))
  (.seq (.region [{ op := .mov 66 (.s 0) false },
    { op := .call (some 67) 30 [(.s 66)] },
    { op := .mov 65 (.s 67) false },
    { op := .extract 68 (.s 65) 0 },
    { op := .extract 69 (.s 65) 1 },
    { op := .mov 7 (.s 68) false },
    { op := .mov 8 (.s 69) false }] none false [2, 7, 8] [2])
  (.seq (.region [{ op := .mov 70 (.s 7) false },
    { op := .call (some 71) 48 [(.s 70)] },
    { op := .mov 72 (.s 8) false },
    { op := .store (.s 2) (.s 71) 3 false },
    { op := .mov 3 (.s 72) false }] none false [2, 3] [2])
  .ret)))))) }

-- tactician/tacticianref05.InName
def a27 : AFun := { n := 1, N := 21, res := [.tmp 2], body :=
  (.seq (.region [{ op := .mov 2 (.c (.bool false)) false }] none false [0] [])
  (.seq (.region [{ op := .mov 3 (.s 0) false },
    { op := .bin 4 .geq (.s 3) (.c (.int .u8 97)) },
    { op := .mov 5 (.s 4) false },
    { op := .mov 6 (.s 0) false, gd := some (5, true) },
    { op := .bin 7 .leq (.s 6) (.c (.int .u8 122)), gd := some (5, true) },
    { op := .pick 8 (.s 5) (.s 7) (.c (.bool false)) },
    { op := .mov 9 (.s 8) false },
    { op := .mov 10 (.s 0) false, gd := some (9, false) },
    { op := .bin 11 .geq (.s 10) (.c (.int .u8 48)), gd := some (9, false) },
    { op := .mov 12 (.s 11) false, gd := some (9, false) },
    { op := .mov 13 (.s 0) false, gd := some (12, true) },
    { op := .bin 14 .leq (.s 13) (.c (.int .u8 57)), gd := some (12, true) },
    { op := .pick 15 (.s 12) (.s 14) (.c (.bool false)), gd := some (9, false) },
    { op := .pick 16 (.s 9) (.c (.bool true)) (.s 15) },
    { op := .mov 17 (.s 16) false },
    { op := .mov 18 (.s 0) false, gd := some (17, false) },
    { op := .bin 19 .eql (.s 18) (.c (.int .u8 95)), gd := some (17, false) },
    { op := .pick 20 (.s 17) (.c (.bool true)) (.s 19) },
    { op := .mov 2 (.s 20) false }] none false [2] [])
  .ret)) }

-- tactician/tacticianref08.small
def a28 : AFun := { n := 1, N := 12, res := [.tmp 2], body :=
  (.seq (.region [{ op := .mov 2 (.c (.int .u8 0)) false }] none false [0] [])
  (.seq (.seq (.region [{ op := .mov 3 (.s 0) false },
    { op := .bin 4 .geq (.s 3) (.c (.int .u8 65)) },
    { op := .mov 5 (.s 4) false },
    { op := .mov 6 (.s 0) false, gd := some (5, true) },
    { op := .bin 7 .leq (.s 6) (.c (.int .u8 90)), gd := some (5, true) },
    { op := .pick 8 (.s 5) (.s 7) (.c (.bool false)) }] none false [0, 8] [])
  (.cond (.s 8) (.seq (.region [{ op := .mov 9 (.s 0) false },
    { op := .bin 10 .add (.s 9) (.c (.int .u8 32)) },
    { op := .mov 2 (.s 10) false }] none false [2] [])
  .ret) (.skip [0] [])))
  (.seq (.region [{ op := .mov 11 (.s 0) false },
    { op := .mov 2 (.s 11) false }] none false [2] [])
  .ret))) }

-- tactician/tacticianref05.Formed
def a29_l0 : ACode := (.seq (.seq (.region [{ op := .mov 22 (.s 3) false },
    { op := .mov 23 (.s 0) false },
    { op := .len 24 true (.s 23) },
    { op := .bin 25 .lss (.s 22) (.s 24) }] none false [0, 3, 25] [])
  (.cond (.s 25) (.skip [0, 3] []) (.exit 0 [] [])))
  (.seq (.block 1 (.seq (.region [{ op := .mov 28 (.s 0) false },
    { op := .mov 29 (.s 3) false },
    { op := .idxS 30 (.s 28) (.s 29) },
    { op := .call (some 31) 27 [(.s 30)] },
    { op := .un 32 .not (.s 31) }] none false [0, 3, 32] [])
  (.cond (.s 32) (.seq (.region [{ op := .mov 2 (.c (.bool false)) false }] none false [2] [])
  .ret) (.skip [0, 3] []))))
  (.region [{ op := .mov 26 (.s 3) false },
    { op := .bin 27 .add (.s 26) (.c (.int .i64 1)) },
    { op := .mov 3 (.s 27) false }] none false [0, 3] [])))
def a29 : AFun := { n := 1, N := 33, res := [.tmp 2], body :=
  (.seq (.region [{ op := .mov 2 (.c (.bool false)) false }] none false [0] [])
  (.seq (.seq (.region [{ op := .mov 4 (.s 0) false },
    { op := .len 5 true (.s 4) },
    { op := .bin 6 .lss (.s 5) (.c (.int .i64 1)) },
    { op := .mov 7 (.s 6) false },
    { op := .mov 8 (.s 0) false, gd := some (7, false) },
    { op := .len 9 true (.s 8), gd := some (7, false) },
    { op := .bin 10 .gtr (.s 9) (.c (.int .i64 20)), gd := some (7, false) },
    { op := .pick 11 (.s 7) (.c (.bool true)) (.s 10) },
    { op := .mov 12 (.s 11) false },
    { op := .mov 13 (.s 0) false, gd := some (12, false) },
    { op := .idxS 14 (.s 13) (.c (.int .i64 0)), gd := some (12, false) },
    { op := .bin 15 .lss (.s 14) (.c (.int .u8 97)), gd := some (12, false) },
    { op := .pick 16 (.s 12) (.c (.bool true)) (.s 15) },
    { op := .mov 17 (.s 16) false },
    { op := .mov 18 (.s 0) false, gd := some (17, false) },
    { op := .idxS 19 (.s 18) (.c (.int .i64 0)), gd := some (17, false) },
    { op := .bin 20 .gtr (.s 19) (.c (.int .u8 122)), gd := some (17, false) },
    { op := .pick 21 (.s 17) (.c (.bool true)) (.s 20) }] none false [0, 21] [])
  (.cond (.s 21) (.seq (.region [{ op := .mov 2 (.c (.bool false)) false }] none false [2] [])
  .ret) (.skip [0] [])))
  (.seq (.seq (.region [{ op := .mov 3 (.c (.int .i64 0)) false }] none false [0, 3] [])
  (.block 0 (.loop a29_l0)))
  (.seq (.region [{ op := .mov 2 (.c (.bool true)) false }] none false [2] [])
  .ret)))) }

-- tactician/tacticianref01.Number
def a30_l0 : ACode := (.seq (.seq (.region [{ op := .mov 14 (.s 5) false },
    { op := .mov 15 (.s 0) false },
    { op := .len 16 true (.s 15) },
    { op := .bin 17 .lss (.s 14) (.s 16) }] none false [0, 4, 5, 17] [])
  (.cond (.s 17) (.skip [0, 4, 5] []) (.exit 0 [0, 4] [])))
  (.seq (.block 1 (.seq (.region [{ op := .mov 20 (.s 0) false },
    { op := .mov 21 (.s 5) false },
    { op := .idxS 22 (.s 20) (.s 21) },
    { op := .bin 23 .geq (.s 22) (.c (.int .u8 48)) },
    { op := .mov 24 (.s 23) false },
    { op := .mov 25 (.s 0) false, gd := some (24, true) },
    { op := .mov 26 (.s 5) false, gd := some (24, true) },
    { op := .idxS 27 (.s 25) (.s 26), gd := some (24, true) },
    { op := .bin 28 .leq (.s 27) (.c (.int .u8 57)), gd := some (24, true) },
    { op := .pick 29 (.s 24) (.s 28) (.c (.bool false)) }] none false [0, 4, 5, 29] [])
  (.cond (.s 29) (.region [{ op := .mov 30 (.s 4) false },
    { op := .bin 31 .mul (.s 30) (.c (.int .i64 10)) },
    { op := .mov 32 (.s 0) false },
    { op := .mov 33 (.s 5) false },
    { op := .idxS 34 (.s 32) (.s 33) },
    { op := .bin 35 .sub (.s 34) (.c (.int .u8 48)) },
    { op := .convI 36 .i64 (.s 35) },
    { op := .bin 37 .sub (.s 31) (.s 36) },
    { op := .mov 4 (.s 37) false }] none false [0, 4, 5] []) (.skip [0, 4, 5] []))))
  (.region [{ op := .mov 18 (.s 5) false },
    { op := .bin 19 .add (.s 18) (.c (.int .i64 1)) },
    { op := .mov 5 (.s 19) false }] none false [0, 4, 5] [])))
def a30 : AFun := { n := 1, N := 54, res := [.tmp 2, .tmp 3], body :=
  (.seq (.region [{ op := .mov 2 (.c (.int .i64 0)) false },
    { op := .mov 3 (.c (.bool false)) false }] none false [0] [])
  (.seq (.seq (.region [{ op := .mov 6 (.s 0) false },
    { op := .len 7 true (.s 6) },
    { op := .bin 8 .eql (.s 7) (.c (.int .i64 0)) },
    { op := .mov 9 (.s 8) false },
    { op := .mov 10 (.s 0) false, gd := some (9, false) },
    { op := .len 11 true (.s 10), gd := some (9, false) },
    { op := .bin 12 .gtr (.s 11) (.c (.int .i64 20)), gd := some (9, false) },
    { op := .pick 13 (.s 9) (.c (.bool true)) (.s 12) }] none false [0, 13] [])
  (.cond (.s 13) (.seq (.region [{ op := .mov 2 (.c (.int .i64 0)) false },
    { op := .mov 3 (.c (.bool false)) false }] none false [2, 3] [])
  .ret) (.skip [0] [])))
  (.seq (.region [{ op := .mov 4 (.c (.int .i64 0)) false }] none false [0, 4] [])
  (.seq (.seq (.region [{ op := .mov 5 (.c (.int .i64 0)) false }] none false [0, 4, 5] [])
  (.block 0 (.loop a30_l0)))
  (.seq (.seq (.region [{ op := .mov 38 (.s 4) false },
    { op := .call (some 39) 49 [(.s 38)] },
    { op := .mov 40 (.s 0) false },
    { op := .bin 41 .eql (.s 39) (.s 40) }] none false [0, 4, 41] [])
  (.cond (.s 41) (.seq (.region [{ op := .mov 42 (.s 4) false },
    { op := .mov 2 (.s 42) false },
    { op := .mov 3 (.c (.bool true)) false }] none false [2, 3] [])
  .ret) (.skip [0, 4] [])))
  (.seq (.seq (.region [{ op := .mov 43 (.s 4) false },
    { op := .bin 44 .neq (.s 43) (.c (.int .i64 (-9223372036854775808))) },
    { op := .mov 45 (.s 44) false },
    { op := .mov 46 (.s 4) false, gd := some (45, true) },
    { op := .un 47 .neg (.s 46), gd := some (45, true) },
    { op := .call (some 48) 49 [(.s 47)], gd := some (45, true) },
    { op := .mov 49 (.s 0) false, gd := some (45, true) },
    { op := .bin 50 .eql (.s 48) (.s 49), gd := some (45, true) },
    { op := .pick 51 (.s 45) (.s 50) (.c (.bool false)) }] none false [4, 51] [])
  (.cond (.s 51) (.seq (.region [{ op := .mov 52 (.s 4) false },
    { op := .un 53 .neg (.s 52) },
    { op := .mov 2 (.s 53) false },
    { op := .mov 3 (.c (.bool true)) false }] none false [2, 3] [])
  .ret) (.skip [] [])))
  (.seq (.region [{ op := .mov 2 (.c (.int .i64 0)) false },
    { op := .mov 3 (.c (.bool false)) false }] none false [2, 3] [])
  .ret))))))) }

-- tactician/tacticianref08.signs
def a31 : AFun := { n := 0, N := 2, res := [.tmp 0], body :=
  (.seq (.region [{ op := .nils 0 1 9 }] none false [] [])
  (.seq (.region [{ op := .bslice 1 1 9 [(.c (.str ⟨#[60, 61]⟩)), (.c (.str ⟨#[62, 61]⟩)), (.c (.str ⟨#[60, 62]⟩)), (.c (.str ⟨#[124, 124]⟩)), (.c (.str ⟨#[40]⟩)), (.c (.str ⟨#[41]⟩)), (.c (.str ⟨#[44]⟩)), (.c (.str ⟨#[46]⟩)), (.c (.str ⟨#[42]⟩)), (.c (.str ⟨#[43]⟩)), (.c (.str ⟨#[45]⟩)), (.c (.str ⟨#[47]⟩)), (.c (.str ⟨#[37]⟩)), (.c (.str ⟨#[61]⟩)), (.c (.str ⟨#[60]⟩)), (.c (.str ⟨#[62]⟩)), (.c (.str ⟨#[59]⟩))] },
    { op := .mov 0 (.s 1) true }] none false [0] [])
  .ret)) }

-- tactician/lexicon.Shaped
def a33_l0 : ACode := (.seq (.region [{ op := .bin 24 .lss (.s 23) (.s 22) }] none false [0, 22, 23, 24] [])
  (.seq (.cond (.s 24) (.skip [0, 22, 23] []) (.exit 0 [] []))
  (.seq (.block 1 (.seq (.region [{ op := .mov 25 (.s 23) false },
    { op := .mov 3 (.s 25) false }] none false [0, 3, 22, 23] [])
  (.seq (.region [{ op := .mov 26 (.s 0) false },
    { op := .mov 27 (.s 3) false },
    { op := .idxS 28 (.s 26) (.s 27) },
    { op := .call (some 29) 37 [(.s 28)] },
    { op := .un 30 .not (.s 29) }] none false [0, 22, 23, 30] [])
  (.cond (.s 30) (.seq (.region [{ op := .mov 2 (.c (.bool false)) false }] none false [2] [])
  .ret) (.skip [0, 22, 23] [])))))
  (.region [{ op := .bin 31 .add (.s 23) (.c (.int .i64 1)) },
    { op := .mov 23 (.s 31) false }] none false [0, 22, 23] []))))
def a33 : AFun := { n := 1, N := 32, res := [.tmp 2], body :=
  (.seq (.region [{ op := .mov 2 (.c (.bool false)) false }] none false [0] [])
  (.seq (.seq (.region [{ op := .mov 4 (.s 0) false },
    { op := .bin 5 .eql (.s 4) (.c (.str ⟨#[]⟩)) },
    { op := .mov 6 (.s 5) false },
    { op := .mov 7 (.s 0) false, gd := some (6, false) },
    { op := .len 8 true (.s 7), gd := some (6, false) },
    { op := .bin 9 .gtr (.s 8) (.c (.int .i64 20)), gd := some (6, false) },
    { op := .pick 10 (.s 6) (.c (.bool true)) (.s 9) },
    { op := .mov 11 (.s 10) false },
    { op := .mov 12 (.s 0) false, gd := some (11, false) },
    { op := .idxS 13 (.s 12) (.c (.int .i64 0)), gd := some (11, false) },
    { op := .bin 14 .lss (.s 13) (.c (.int .u8 97)), gd := some (11, false) },
    { op := .pick 15 (.s 11) (.c (.bool true)) (.s 14) },
    { op := .mov 16 (.s 15) false },
    { op := .mov 17 (.s 0) false, gd := some (16, false) },
    { op := .idxS 18 (.s 17) (.c (.int .i64 0)), gd := some (16, false) },
    { op := .bin 19 .gtr (.s 18) (.c (.int .u8 122)), gd := some (16, false) },
    { op := .pick 20 (.s 16) (.c (.bool true)) (.s 19) }] none false [0, 20] [])
  (.cond (.s 20) (.seq (.region [{ op := .mov 2 (.c (.bool false)) false }] none false [2] [])
  .ret) (.skip [0] [])))
  (.seq (.seq (.region [{ op := .mov 21 (.s 0) false },
    { op := .len 22 true (.s 21) },
    { op := .mov 23 (.c (.int .i64 0)) false }] none false [0, 22, 23] [])
  (.block 0 (.loop a33_l0)))
  (.seq (.region [{ op := .mov 2 (.c (.bool true)) false }] none false [2] [])
  .ret)))) }

-- strings.HasPrefix
def a34 : AFun := { n := 2, N := 8, res := [.tmp 4], body :=
  (.seq (.region [{ op := .mov 4 (.c (.bool false)) false }] none false [0, 1] [])
  (.seq (.region [{ op := .mov 5 (.s 0) false },
    { op := .mov 6 (.s 1) false },
    { op := .call (some 7) 52 [(.s 5), (.s 6)] },
    { op := .mov 4 (.s 7) false }] none false [4] [])
  .ret)) }

-- tactician/token.quoted
def a35_l0 : ACode := (.seq (.seq (.region [{ op := .mov 4 (.s 3) false },
    { op := .mov 5 (.s 0) false },
    { op := .len 6 true (.s 5) },
    { op := .bin 7 .lss (.s 4) (.s 6) }] none false [0, 3, 7] [])
  (.cond (.s 7) (.skip [0, 3] []) (.exit 0 [] [])))
  (.seq (.block 1 (.seq (.seq (.region [{ op := .mov 10 (.s 0) false },
    { op := .mov 11 (.s 3) false },
    { op := .idxS 12 (.s 10) (.s 11) },
    { op := .bin 13 .neq (.s 12) (.c (.int .u8 39)) }] none false [0, 3, 13] [])
  (.cond (.s 13) (.exit 1 [0, 3] []) (.skip [0, 3] [])))
  (.seq (.seq (.region [{ op := .mov 14 (.s 3) false },
    { op := .bin 15 .add (.s 14) (.c (.int .i64 1)) },
    { op := .mov 16 (.s 0) false },
    { op := .len 17 true (.s 16) },
    { op := .bin 18 .lss (.s 15) (.s 17) },
    { op := .mov 19 (.s 18) false },
    { op := .mov 20 (.s 0) false, gd := some (19, true) },
    { op := .mov 21 (.s 3) false, gd := some (19, true) },
    { op := .bin 22 .add (.s 21) (.c (.int .i64 1)), gd := some (19, true) },
    { op := .idxS 23 (.s 20) (.s 22), gd := some (19, true) },
    { op := .bin 24 .eql (.s 23) (.c (.int .u8 39)), gd := some (19, true) },
    { op := .pick 25 (.s 19) (.s 24) (.c (.bool false)) }] none false [0, 3, 25] [])
  (.cond (.s 25) (.seq (.region [{ op := .mov 26 (.s 3) false },
    { op := .bin 27 .add (.s 26) (.c (.int .i64 1)) },
    { op := .mov 3 (.s 27) false }] none false [0, 3] [])
  (.exit 1 [0, 3] [])) (.skip [3] [])))
  (.seq (.region [{ op := .mov 28 (.s 3) false },
    { op := .bin 29 .add (.s 28) (.c (.int .i64 1)) },
    { op := .mov 2 (.s 29) false }] none false [2] [])
  .ret))))
  (.region [{ op := .mov 8 (.s 3) false },
    { op := .bin 9 .add (.s 8) (.c (.int .i64 1)) },
    { op := .mov 3 (.s 9) false }] none false [0, 3] [])))
def a35 : AFun := { n := 1, N := 30, res := [.tmp 2], body :=
  (.seq (.region [{ op := .mov 2 (.c (.int .i64 0)) false }] none false [0] [])
  (.seq (.seq (.region [{ op := .mov 3 (.c (.int .i64 1)) false }] none false [0, 3] [])
  (.block 0 (.loop a35_l0)))
  (.seq (.region [{ op := .mov 2 (.c (.int .i64 0)) false }] none false [2] [])
  .ret))) }

-- tactician/value.Read
def a36 : AFun := { n := 1, N := 63, res := [.cell 2 3 true, .tmp 3], body :=
  (.seq (.region [{ op := .alloc 2 false [.int .i64 0, .int .i64 0, .str ⟨#[]⟩] [] },
    { op := .mov 3 (.c (.bool false)) false }] none false [0, 2] [2])
  (.seq (.region [{ op := .alloc 4 false [.int .i64 0, .int .i64 0, .str ⟨#[]⟩] [] }] none false [0, 2, 4] [2, 4])
  (.seq (.block 0 (.seq (.region [{ op := .mov 18 (.s 0) false },
    { op := .bin 19 .eql (.s 18) (.c (.str ⟨#[110, 117, 108, 108]⟩)) },
    { op := .mov 17 (.s 19) false }] none false [0, 2, 4, 17] [2, 4])
  (.cond (.s 17) (.skip [0, 2, 4] [2, 4]) (.seq (.region [{ op := .mov 21 (.s 0) false },
    { op := .bin 22 .eql (.s 21) (.c (.str ⟨#[116, 114, 117, 101]⟩)) },
    { op := .mov 20 (.s 22) false }] none false [0, 2, 4, 20] [2, 4])
  (.cond (.s 20) (.region [{ op := .call (some 23) 53 [] },
    { op := .store (.s 4) (.s 23) 3 false }] none false [0, 2, 4] [2, 4]) (.seq (.region [{ op := .mov 25 (.s 0) false },
    { op := .bin 26 .eql (.s 25) (.c (.str ⟨#[102, 97, 108, 115, 101]⟩)) },
    { op := .mov 24 (.s 26) false }] none false [0, 2, 4, 24] [2, 4])
  (.cond (.s 24) (.region [{ op := .call (some 27) 54 [] },
    { op := .store (.s 4) (.s 27) 3 false }] none false [0, 2, 4] [2, 4]) (.seq (.region [{ op := .mov 29 (.s 0) false },
    { op := .len 30 true (.s 29) },
    { op := .bin 31 .gtr (.s 30) (.c (.int .i64 1)) },
    { op := .mov 32 (.s 31) false },
    { op := .mov 33 (.s 0) false, gd := some (32, true) },
    { op := .idxS 34 (.s 33) (.c (.int .i64 0)), gd := some (32, true) },
    { op := .bin 35 .eql (.s 34) (.c (.int .u8 39)), gd := some (32, true) },
    { op := .pick 36 (.s 32) (.s 35) (.c (.bool false)) },
    { op := .mov 37 (.s 36) false },
    { op := .mov 38 (.s 0) false, gd := some (37, true) },
    { op := .mov 39 (.s 0) false, gd := some (37, true) },
    { op := .len 40 true (.s 39), gd := some (37, true) },
    { op := .bin 41 .sub (.s 40) (.c (.int .i64 1)), gd := some (37, true) },
    { op := .idxS 42 (.s 38) (.s 41), gd := some (37, true) },
    { op := .bin 43 .eql (.s 42) (.c (.int .u8 39)), gd := some (37, true) },
    { op := .pick 44 (.s 37) (.s 43) (.c (.bool false)) },
    { op := .mov 28 (.s 44) false }] none false [0, 2, 4, 28] [2, 4])
  (.cond (.s 28) (.region [{ op := .mov 45 (.s 0) false },
    { op := .mov 46 (.s 0) false },
    { op := .len 47 true (.s 46) },
    { op := .bin 48 .sub (.s 47) (.c (.int .i64 1)) },
    { op := .sliceS 49 (.s 45) (some (.c (.int .i64 1))) (some (.s 48)) },
    { op := .call (some 50) 55 [(.s 49), (.c (.str ⟨#[39, 39]⟩)), (.c (.str ⟨#[39]⟩))] },
    { op := .build 51 [.int .i64 0, .int .i64 0, .str ⟨#[]⟩] [(0, 1, (.c (.int .i64 3))), (2, 1, (.s 50))] },
    { op := .store (.s 4) (.s 51) 3 false }] none false [0, 2, 4] [2, 4]) (.seq (.region [{ op := .mov 8 (.s 0) false },
    { op := .call (some 9) 42 [(.s 8), (.c (.int .i64 10)), (.c (.int .i64 64))] },
    { op := .mov 7 (.s 9) false },
    { op := .extract 10 (.s 7) 0 },
    { op := .extract 11 (.s 7) 1 },
    { op := .mov 5 (.s 10) false },
    { op := .mov 6 (.s 11) false }] none false [0, 2, 4, 5, 6] [2, 4])
  (.seq (.seq (.region [{ op := .mov 12 (.s 6) false },
    { op := .eqnil 13 true 2 (.s 12) }] none false [0, 2, 4, 5, 13] [2, 4])
  (.cond (.s 13) (.seq (.region [{ op := .build 14 [.int .i64 0, .int .i64 0, .str ⟨#[]⟩] [] },
    { op := .store (.s 2) (.s 14) 3 false },
    { op := .mov 3 (.c (.bool false)) false }] none false [2, 3] [2])
  .ret) (.skip [0, 2, 4, 5] [2, 4])))
  (.region [{ op := .mov 15 (.s 5) false },
    { op := .build 16 [.int .i64 0, .int .i64 0, .str ⟨#[]⟩] [(0, 1, (.c (.int .i64 1))), (1, 1, (.s 15))] },
    { op := .store (.s 4) (.s 16) 3 false }] none false [0, 2, 4] [2, 4]))))))))))))
  (.seq (.seq (.region [{ op := .load 52 3 true (.s 4) },
    { op := .call (some 53) 56 [(.s 52)] },
    { op := .un 54 .not (.s 53) },
    { op := .mov 55 (.s 54) false },
    { op := .load 56 3 true (.s 4), gd := some (55, false) },
    { op := .call (some 57) 57 [(.s 56)], gd := some (55, false) },
    { op := .mov 58 (.s 0) false, gd := some (55, false) },
    { op := .bin 59 .neq (.s 57) (.s 58), gd := some (55, false) },
    { op := .pick 60 (.s 55) (.c (.bool true)) (.s 59) }] none false [2, 4, 60] [2, 4])
  (.cond (.s 60) (.seq (.region [{ op := .build 61 [.int .i64 0, .int .i64 0, .str ⟨#[]⟩] [] },
    { op := .store (.s 2) (.s 61) 3 false },
    { op := .mov 3 (.c (.bool false)) false }] none false [2, 3] [2])
  .ret) (.skip [2, 4] [2, 4])))
  (.seq (.region [{ op := .load 62 3 true (.s 4) },
    { op := .store (.s 2) (.s 62) 3 false },
    { op := .mov 3 (.c (.bool true)) false }] none false [2, 3] [2])
  .ret))))) }

-- tactician/lexicon.InName
def a37 : AFun := { n := 1, N := 21, res := [.tmp 2], body :=
  (.seq (.region [{ op := .mov 2 (.c (.bool false)) false }] none false [0] [])
  (.seq (.region [{ op := .mov 3 (.s 0) false },
    { op := .bin 4 .geq (.s 3) (.c (.int .u8 97)) },
    { op := .mov 5 (.s 4) false },
    { op := .mov 6 (.s 0) false, gd := some (5, true) },
    { op := .bin 7 .leq (.s 6) (.c (.int .u8 122)), gd := some (5, true) },
    { op := .pick 8 (.s 5) (.s 7) (.c (.bool false)) },
    { op := .mov 9 (.s 8) false },
    { op := .mov 10 (.s 0) false, gd := some (9, false) },
    { op := .bin 11 .geq (.s 10) (.c (.int .u8 48)), gd := some (9, false) },
    { op := .mov 12 (.s 11) false, gd := some (9, false) },
    { op := .mov 13 (.s 0) false, gd := some (12, true) },
    { op := .bin 14 .leq (.s 13) (.c (.int .u8 57)), gd := some (12, true) },
    { op := .pick 15 (.s 12) (.s 14) (.c (.bool false)), gd := some (9, false) },
    { op := .pick 16 (.s 9) (.c (.bool true)) (.s 15) },
    { op := .mov 17 (.s 16) false },
    { op := .mov 18 (.s 0) false, gd := some (17, false) },
    { op := .bin 19 .eql (.s 18) (.c (.int .u8 95)), gd := some (17, false) },
    { op := .pick 20 (.s 17) (.c (.bool true)) (.s 19) },
    { op := .mov 2 (.s 20) false }] none false [2] [])
  .ret)) }

-- tactician/token.small
def a38 : AFun := { n := 1, N := 13, res := [.tmp 2], body :=
  (.seq (.region [{ op := .mov 2 (.c (.int .u8 0)) false }] none false [0] [])
  (.seq (.seq (.region [{ op := .mov 3 (.s 0) false },
    { op := .bin 4 .geq (.s 3) (.c (.int .u8 65)) },
    { op := .mov 5 (.s 4) false },
    { op := .mov 6 (.s 0) false, gd := some (5, true) },
    { op := .bin 7 .leq (.s 6) (.c (.int .u8 90)), gd := some (5, true) },
    { op := .pick 8 (.s 5) (.s 7) (.c (.bool false)) }] none false [0, 8] [])
  (.cond (.s 8) (.seq (.region [{ op := .mov 9 (.s 0) false },
    { op := .bin 10 .add (.s 9) (.c (.int .u8 97)) },
    { op := .bin 11 .sub (.s 10) (.c (.int .u8 65)) },
    { op := .mov 2 (.s 11) false }] none false [2] [])
  .ret) (.skip [0] [])))
  (.seq (.region [{ op := .mov 12 (.s 0) false },
    { op := .mov 2 (.s 12) false }] none false [2] [])
  .ret))) }

-- tactician/token.next$1
def a40 : AFun := { n := 1, N := 7, res := [.tmp 2], body :=
  (.seq (.region [{ op := .mov 2 (.c (.int .i32 0)) false }] none false [0] [])
  (.seq (.region [{ op := .mov 3 (.s 0) false },
    { op := .convI 4 .u8 (.s 3) },
    { op := .call (some 5) 38 [(.s 4)] },
    { op := .convI 6 .i32 (.s 5) },
    { op := .mov 2 (.s 6) false }] none false [2] [])
  .ret)) }

-- tactician/token.isDigit
def a41 : AFun := { n := 1, N := 9, res := [.tmp 2], body :=
  (.seq (.region [{ op := .mov 2 (.c (.bool false)) false }] none false [0] [])
  (.seq (.region [{ op := .mov 3 (.s 0) false },
    { op := .bin 4 .geq (.s 3) (.c (.int .u8 48)) },
    { op := .mov 5 (.s 4) false },
    { op := .mov 6 (.s 0) false, gd := some (5, true) },
    { op := .bin 7 .leq (.s 6) (.c (.int .u8 57)), gd := some (5, true) },
    { op := .pick 8 (.s 5) (.s 7) (.c (.bool false)) },
    { op := .mov 2 (.s 8) false }] none false [2] [])
  .ret)) }

-- tactician/tacticianref01.Bool
def a44 : AFun := { n := 1, N := 6, res := [.cell 2 3 true], body :=
  (.seq (.region [{ op := .alloc 2 false [.int .i64 0, .int .i64 0, .str ⟨#[]⟩] [] }] none false [0, 2] [2])
  (.seq (.seq (.region [{ op := .mov 3 (.s 0) false }] none false [2, 3] [2])
  (.cond (.s 3) (.seq (.region [{ op := .build 4 [.int .i64 0, .int .i64 0, .str ⟨#[]⟩] [(0, 1, (.c (.int .i64 2))), (1, 1, (.c (.int .i64 1)))] },
    { op := .store (.s 2) (.s 4) 3 false }] none false [2] [2])
  .ret) (.skip [2] [2])))
  (.seq (.region [{ op := .build 5 [.int .i64 0, .int .i64 0, .str ⟨#[]⟩] [(0, 1, (.c (.int .i64 2)))] },
    { op := .store (.s 2) (.s 5) 3 false }] none false [2] [2])
  .ret))) }

-- tactician/tacticianref01.Text
def a45 : AFun := { n := 1, N := 5, res := [.cell 2 3 true], body :=
  (.seq (.region [{ op := .alloc 2 false [.int .i64 0, .int .i64 0, .str ⟨#[]⟩] [] }] none false [0, 2] [2])
  (.seq (.region [{ op := .mov 3 (.s 0) false },
    { op := .build 4 [.int .i64 0, .int .i64 0, .str ⟨#[]⟩] [(0, 1, (.c (.int .i64 3))), (2, 1, (.s 3))] },
    { op := .store (.s 2) (.s 4) 3 false }] none false [2] [2])
  .ret)) }

-- tactician/tacticianref01.Right
def a46 : AFun := { n := 1, N := 51, res := [.tmp 2], body :=
  (.seq (.region [{ op := .box 1 false (.s 0) },
    { op := .mov 2 (.c (.bool false)) false }] none false [1] [1])
  (.seq (.seq (.region [{ op := .faddr 3 0 (.s 1) },
    { op := .load 4 1 false (.s 3) }] none false [1, 4] [1])
  (.block 0 (.seq (.region [{ op := .bin 6 .eql (.s 4) (.c (.int .i64 0)) },
    { op := .mov 5 (.s 6) false }] none false [1, 4, 5] [1])
  (.cond (.s 5) (.seq (.region [{ op := .faddr 7 1 (.s 1) },
    { op := .load 8 1 false (.s 7) },
    { op := .bin 9 .eql (.s 8) (.c (.int .i64 0)) },
    { op := .mov 10 (.s 9) false },
    { op := .faddr 11 2 (.s 1), gd := some (10, true) },
    { op := .load 12 1 false (.s 11), gd := some (10, true) },
    { op := .bin 13 .eql (.s 12) (.c (.str ⟨#[]⟩)), gd := some (10, true) },
    { op := .pick 14 (.s 10) (.s 13) (.c (.bool false)) },
    { op := .mov 2 (.s 14) false }] none false [2] [])
  .ret) (.seq (.region [{ op := .bin 16 .eql (.s 4) (.c (.int .i64 1)) },
    { op := .mov 15 (.s 16) false }] none false [1, 4, 15] [1])
  (.cond (.s 15) (.seq (.region [{ op := .faddr 17 2 (.s 1) },
    { op := .load 18 1 false (.s 17) },
    { op := .bin 19 .eql (.s 18) (.c (.str ⟨#[]⟩)) },
    { op := .mov 2 (.s 19) false }] none false [2] [])
  .ret) (.seq (.region [{ op := .bin 21 .eql (.s 4) (.c (.int .i64 2)) },
    { op := .mov 20 (.s 21) false }] none false [1, 4, 20] [1])
  (.cond (.s 20) (.seq (.region [{ op := .faddr 22 1 (.s 1) },
    { op := .load 23 1 false (.s 22) },
    { op := .bin 24 .eql (.s 23) (.c (.int .i64 0)) },
    { op := .mov 25 (.s 24) false },
    { op := .faddr 26 1 (.s 1), gd := some (25, false) },
    { op := .load 27 1 false (.s 26), gd := some (25, false) },
    { op := .bin 28 .eql (.s 27) (.c (.int .i64 1)), gd := some (25, false) },
    { op := .pick 29 (.s 25) (.c (.bool true)) (.s 28) },
    { op := .mov 30 (.s 29) false },
    { op := .faddr 31 2 (.s 1), gd := some (30, true) },
    { op := .load 32 1 false (.s 31), gd := some (30, true) },
    { op := .bin 33 .eql (.s 32) (.c (.str ⟨#[]⟩)), gd := some (30, true) },
    { op := .pick 34 (.s 30) (.s 33) (.c (.bool false)) },
    { op := .mov 2 (.s 34) false }] none false [2] [])
  .ret) (.seq (.region [{ op := .bin 36 .eql (.s 4) (.c (.int .i64 3)) },
    { op := .mov 35 (.s 36) false }] none false [1, 35] [1])
  (.cond (.s 35) (.seq (.region [{ op := .faddr 37 1 (.s 1) },
    { op := .load 38 1 false (.s 37) },
    { op := .bin 39 .eql (.s 38) (.c (.int .i64 0)) },
    { op := .mov 40 (.s 39) false },
    { op := .faddr 41 2 (.s 1), gd := some (40, true) },
    { op := .load 42 1 false (.s 41), gd := some (40, true) },
    { op := .len 43 true (.s 42), gd := some (40, true) },
    { op := .bin 44 .leq (.s 43) (.c (.int .i64 200)), gd := some (40, true) },
    { op := .pick 45 (.s 40) (.s 44) (.c (.bool false)) },
    { op := .mov 46 (.s 45) false },
    { op := .faddr 47 2 (.s 1), gd := some (46, true) },
    { op := .load 48 1 false (.s 47), gd := some (46, true) },
    { op := .call (some 49) 69 [(.s 48)], gd := some (46, true) },
    { op := .pick 50 (.s 46) (.s 49) (.c (.bool false)) },
    { op := .mov 2 (.s 50) false }] none false [2] [])
  .ret) (.skip [] [])))))))))))
  (.seq (.region [{ op := .mov 2 (.c (.bool false)) false }] none false [2] [])
  .ret))) }

-- tactician/tacticianref01.String
def a47_l0 : ACode := (.seq (.seq (.region [{ op := .mov 19 (.s 4) false },
    { op := .faddr 20 2 (.s 1) },
    { op := .load 21 1 false (.s 20) },
    { op := .len 22 true (.s 21) },
    { op := .bin 23 .lss (.s 19) (.s 22) }] none false [1, 3, 4, 23] [1])
  (.cond (.s 23) (.skip [1, 3, 4] [1]) (.exit 1 [3] [])))
  (.seq (.block 2 (.seq (.region [{ op := .mov 26 (.s 3) false },
    { op := .faddr 27 2 (.s 1) },
    { op := .load 28 1 false (.s 27) },
    { op := .mov 29 (.s 4) false },
    { op := .mov 30 (.s 4) false },
    { op := .bin 31 .add (.s 30) (.c (.int .i64 1)) },
    { op := .sliceS 32 (.s 28) (some (.s 29)) (some (.s 31)) },
    { op := .bin 33 .add (.s 26) (.s 32) },
    { op := .mov 3 (.s 33) false }] none false [1, 3, 4] [1])
  (.seq (.region [{ op := .faddr 34 2 (.s 1) },
    { op := .load 35 1 false (.s 34) },
    { op := .mov 36 (.s 4) false },
    { op := .idxS 37 (.s 35) (.s 36) },
    { op := .bin 38 .eql (.s 37) (.c (.int .u8 39)) }] none false [1, 3, 4, 38] [1])
  (.cond (.s 38) (.region [{ op := .mov 39 (.s 3) false },
    { op := .bin 40 .add (.s 39) (.c (.str ⟨#[39]⟩)) },
    { op := .mov 3 (.s 40) false }] none false [1, 3, 4] [1]) (.skip [1, 3, 4] [1])))))
  (.region [{ op := .mov 24 (.s 4) false },
    { op := .bin 25 .add (.s 24) (.c (.int .i64 1)) },
    { op := .mov 4 (.s 25) false }] none false [1, 3, 4] [1])))
def a47 : AFun := { n := 1, N := 43, res := [.tmp 2], body :=
  (.seq (.region [{ op := .box 1 false (.s 0) },
    { op := .mov 2 (.c (.str ⟨#[]⟩)) false }] none false [1] [1])
  (.seq (.seq (.region [{ op := .faddr 5 0 (.s 1) },
    { op := .load 6 1 false (.s 5) }] none false [1, 6] [1])
  (.block 0 (.seq (.region [{ op := .bin 8 .eql (.s 6) (.c (.int .i64 1)) },
    { op := .mov 7 (.s 8) false }] none false [1, 6, 7] [1])
  (.cond (.s 7) (.seq (.region [{ op := .faddr 9 1 (.s 1) },
    { op := .load 10 1 false (.s 9) },
    { op := .call (some 11) 49 [(.s 10)] },
    { op := .mov 2 (.s 11) false }] none false [2] [])
  .ret) (.seq (.region [{ op := .bin 13 .eql (.s 6) (.c (.int .i64 2)) },
    { op := .mov 12 (.s 13) false }] none false [1, 6, 12] [1])
  (.cond (.s 12) (.seq (.seq (.region [{ op := .faddr 14 1 (.s 1) },
    { op := .load 15 1 false (.s 14) },
    { op := .bin 16 .eql (.s 15) (.c (.int .i64 1)) }] none false [16] [])
  (.cond (.s 16) (.seq (.region [{ op := .mov 2 (.c (.str ⟨#[116, 114, 117, 101]⟩)) false }] none false [2] [])
  .ret) (.skip [] [])))
  (.seq (.region [{ op := .mov 2 (.c (.str ⟨#[102, 97, 108, 115, 101]⟩)) false }] none false [2] [])
  .ret)) (.seq (.region [{ op := .bin 18 .eql (.s 6) (.c (.int .i64 3)) },
    { op := .mov 17 (.s 18) false }] none false [1, 17] [1])
  (.cond (.s 17) (.seq (.region [{ op := .mov 3 (.c (.str ⟨#[39]⟩)) false }] none false [1, 3] [1])
  (.seq (.seq (.region [{ op := .mov 4 (.c (.int .i64 0)) false }] none false [1, 3, 4] [1])
  (.block 1 (.loop a47_l0)))
  (.seq (.region [{ op := .mov 41 (.s 3) false },
    { op := .bin 42 .add (.s 41) (.c (.str ⟨#[39]⟩)) },
    { op := .mov 2 (.s 42) false }] none false [2] [])
  .ret))) (.skip [] [])))))))))
  (.seq (.region [{ op := .mov 2 (.c (.str ⟨#[110, 117, 108, 108]⟩)) false }] none false [2] [])
  .ret))) }

-- tactician/tacticianref01.Int
def a48 : AFun := { n := 1, N := 5, res := [.cell 2 3 true], body :=
  (.seq (.region [{ op := .alloc 2 false [.int .i64 0, .int .i64 0, .str ⟨#[]⟩] [] }] none false [0, 2] [2])
  (.seq (.region [{ op := .mov 3 (.s 0) false },
    { op := .build 4 [.int .i64 0, .int .i64 0, .str ⟨#[]⟩] [(0, 1, (.c (.int .i64 1))), (1, 1, (.s 3))] },
    { op := .store (.s 2) (.s 4) 3 false }] none false [2] [2])
  .ret)) }

-- tactician/tacticianref01.Digits
def a49 : AFun := { n := 1, N := 36, res := [.tmp 2], body :=
  (.seq (.region [{ op := .mov 2 (.c (.str ⟨#[]⟩)) false }] none false [0] [])
  (.seq (.seq (.region [{ op := .mov 5 (.s 0) false },
    { op := .bin 6 .lss (.s 5) (.c (.int .i64 0)) }] none false [0, 6] [])
  (.cond (.s 6) (.seq (.region [{ op := .mov 7 (.s 0) false },
    { op := .bin 8 .rem (.s 7) (.c (.int .i64 10)) },
    { op := .bin 9 .sub (.c (.int .i64 48)) (.s 8) },
    { op := .convI 10 .u8 (.s 9) },
    { op := .bslice 11 1 5 [(.s 10)] },
    { op := .convB 12 (.s 11) },
    { op := .mov 3 (.s 12) false }] none false [0, 3] [])
  (.seq (.seq (.region [{ op := .mov 13 (.s 0) false },
    { op := .bin 14 .gtr (.s 13) (.c (.int .i64 (-10))) }] none false [0, 3, 14] [])
  (.cond (.s 14) (.seq (.region [{ op := .mov 15 (.s 3) false },
    { op := .bin 16 .add (.c (.str ⟨#[45]⟩)) (.s 15) },
    { op := .mov 2 (.s 16) false }] none false [2] [])
  .ret) (.skip [0, 3] [])))
  (.seq (.region [{ op := .mov 17 (.s 0) false },
    { op := .bin 18 .quo (.s 17) (.c (.int .i64 10)) },
    { op := .call (some 19) 49 [(.s 18)] },
    { op := .mov 20 (.s 3) false },
    { op := .bin 21 .add (.s 19) (.s 20) },
    { op := .mov 2 (.s 21) false }] none false [2] [])
  .ret))) (.skip [0] [])))
  (.seq (.region [{ op := .mov 22 (.s 0) false },
    { op := .bin 23 .rem (.s 22) (.c (.int .i64 10)) },
    { op := .bin 24 .add (.c (.int .i64 48)) (.s 23) },
    { op := .convI 25 .u8 (.s 24) },
    { op := .bslice 26 1 5 [(.s 25)] },
    { op := .convB 27 (.s 26) },
    { op := .mov 4 (.s 27) false }] none false [0, 4] [])
  (.seq (.seq (.region [{ op := .mov 28 (.s 0) false },
    { op := .bin 29 .lss (.s 28) (.c (.int .i64 10)) }] none false [0, 4, 29] [])
  (.cond (.s 29) (.seq (.region [{ op := .mov 30 (.s 4) false },
    { op := .mov 2 (.s 30) false }] none false [2] [])
  .ret) (.skip [0, 4] [])))
  (.seq (.region [{ op := .mov 31 (.s 0) false },
    { op := .bin 32 .quo (.s 31) (.c (.int .i64 10)) },
    { op := .call (some 33) 49 [(.s 32)] },
    { op := .mov 34 (.s 4) false },
    { op := .bin 35 .add (.s 33) (.s 34) },
    { op := .mov 2 (.s 35) false }] none false [2] [])
  .ret))))) }

-- internal/stringslite.HasPrefix
def a52 : AFun := { n := 2, N := 18, res := [.tmp 4], body :=
  (.seq (.region [{ op := .mov 4 (.c (.bool false)) false }] none false [0, 1] [])
  (.seq (.region [{ op := .mov 5 (.s 0) false },
    { op := .len 6 true (.s 5) },
    { op := .mov 7 (.s 1) false },
    { op := .len 8 true (.s 7) },
    { op := .bin 9 .geq (.s 6) (.s 8) },
    { op := .mov 10 (.s 9) false },
    { op := .mov 11 (.s 0) false, gd := some (10, true) },
    { op := .mov 12 (.s 1) false, gd := some (10, true) },
    { op := .len 13 true (.s 12), gd := some (10, true) },
    { op := .sliceS 14 (.s 11) none (some (.s 13)), gd := some (10, true) },
    { op := .mov 15 (.s 1) false, gd := some (10, true) },
    { op := .bin 16 .eql (.s 14) (.s 15), gd := some (10, true) },
    { op := .pick 17 (.s 10) (.s 16) (.c (.bool false)) },
    { op := .mov 4 (.s 17) false }] none false [4] [])
  .ret)) }

-- tactician/value.True
def a53 : AFun := { n := 0, N := 2, res := [.cell 0 3 true], body :=
  (.seq (.region [{ op := .alloc 0 false [.int .i64 0, .int .i64 0, .str ⟨#[]⟩] [] }] none false [0] [0])
  (.seq (.region [{ op := .build 1 [.int .i64 0, .int .i64 0, .str ⟨#[]⟩] [(0, 1, (.c (.int .i64 2))), (1, 1, (.c (.int .i64 1)))] },
    { op := .store (.s 0) (.s 1) 3 false }] none false [0] [0])
  .ret)) }

-- tactician/value.False
def a54 : AFun := { n := 0, N := 2, res := [.cell 0 3 true], body :=
  (.seq (.region [{ op := .alloc 0 false [.int .i64 0, .int .i64 0, .str ⟨#[]⟩] [] }] none false [0] [0])
  (.seq (.region [{ op := .build 1 [.int .i64 0, .int .i64 0, .str ⟨#[]⟩] [(0, 1, (.c (.int .i64 2)))] },
    { op := .store (.s 0) (.s 1) 3 false }] none false [0] [0])
  .ret)) }

-- tactician/value.Is
def a56 : AFun := { n := 1, N := 51, res := [.tmp 2], body :=
  (.seq (.region [{ op := .box 1 false (.s 0) },
    { op := .mov 2 (.c (.bool false)) false }] none false [1] [1])
  (.seq (.seq (.region [{ op := .faddr 3 0 (.s 1) },
    { op := .load 4 1 false (.s 3) }] none false [1, 4] [1])
  (.block 0 (.seq (.region [{ op := .bin 6 .eql (.s 4) (.c (.int .i64 0)) },
    { op := .mov 5 (.s 6) false }] none false [1, 4, 5] [1])
  (.cond (.s 5) (.seq (.region [{ op := .faddr 7 1 (.s 1) },
    { op := .load 8 1 false (.s 7) },
    { op := .bin 9 .eql (.s 8) (.c (.int .i64 0)) },
    { op := .mov 10 (.s 9) false },
    { op := .faddr 11 2 (.s 1), gd := some (10, true) },
    { op := .load 12 1 false (.s 11), gd := some (10, true) },
    { op := .bin 13 .eql (.s 12) (.c (.str ⟨#[]⟩)), gd := some (10, true) },
    { op := .pick 14 (.s 10) (.s 13) (.c (.bool false)) },
    { op := .mov 2 (.s 14) false }] none false [2] [])
  .ret) (.seq (.region [{ op := .bin 16 .eql (.s 4) (.c (.int .i64 1)) },
    { op := .mov 15 (.s 16) false }] none false [1, 4, 15] [1])
  (.cond (.s 15) (.seq (.region [{ op := .faddr 17 2 (.s 1) },
    { op := .load 18 1 false (.s 17) },
    { op := .bin 19 .eql (.s 18) (.c (.str ⟨#[]⟩)) },
    { op := .mov 2 (.s 19) false }] none false [2] [])
  .ret) (.seq (.region [{ op := .bin 21 .eql (.s 4) (.c (.int .i64 2)) },
    { op := .mov 20 (.s 21) false }] none false [1, 4, 20] [1])
  (.cond (.s 20) (.seq (.region [{ op := .faddr 22 2 (.s 1) },
    { op := .load 23 1 false (.s 22) },
    { op := .bin 24 .eql (.s 23) (.c (.str ⟨#[]⟩)) },
    { op := .mov 25 (.s 24) false },
    { op := .faddr 26 1 (.s 1), gd := some (25, true) },
    { op := .load 27 1 false (.s 26), gd := some (25, true) },
    { op := .bin 28 .eql (.s 27) (.c (.int .i64 0)), gd := some (25, true) },
    { op := .mov 29 (.s 28) false, gd := some (25, true) },
    { op := .faddr 30 1 (.s 1), gd := some (29, false) },
    { op := .load 31 1 false (.s 30), gd := some (29, false) },
    { op := .bin 32 .eql (.s 31) (.c (.int .i64 1)), gd := some (29, false) },
    { op := .pick 33 (.s 29) (.c (.bool true)) (.s 32), gd := some (25, true) },
    { op := .pick 34 (.s 25) (.s 33) (.c (.bool false)) },
    { op := .mov 2 (.s 34) false }] none false [2] [])
  .ret) (.seq (.region [{ op := .bin 36 .eql (.s 4) (.c (.int .i64 3)) },
    { op := .mov 35 (.s 36) false }] none false [1, 35] [1])
  (.cond (.s 35) (.seq (.region [{ op := .faddr 37 1 (.s 1) },
    { op := .load 38 1 false (.s 37) },
    { op := .bin 39 .eql (.s 38) (.c (.int .i64 0)) },
    { op := .mov 40 (.s 39) false },
    { op := .faddr 41 2 (.s 1), gd := some (40, true) },
    { op := .load 42 1 false (.s 41), gd := some (40, true) },
    { op := .len 43 true (.s 42), gd := some (40, true) },
    { op := .bin 44 .leq (.s 43) (.c (.int .i64 200)), gd := some (40, true) },
    { op := .pick 45 (.s 40) (.s 44) (.c (.bool false)) },
    { op := .mov 46 (.s 45) false },
    { op := .faddr 47 2 (.s 1), gd := some (46, true) },
    { op := .load 48 1 false (.s 47), gd := some (46, true) },
    { op := .call (some 49) 72 [(.s 48)], gd := some (46, true) },
    { op := .pick 50 (.s 46) (.s 49) (.c (.bool false)) },
    { op := .mov 2 (.s 50) false }] none false [2] [])
  .ret) (.skip [] [])))))))))))
  (.seq (.region [{ op := .mov 2 (.c (.bool false)) false }] none false [2] [])
  .ret))) }

-- tactician/value.Written
def a57 : AFun := { n := 1, N := 25, res := [.tmp 2], body :=
  (.seq (.region [{ op := .box 1 false (.s 0) },
    { op := .mov 2 (.c (.str ⟨#[]⟩)) false }] none false [1] [1])
  (.seq (.region [{ op := .build 4 [.str ⟨#[]⟩, .str ⟨#[]⟩] [(0, 1, (.c (.str ⟨#[102, 97, 108, 115, 101]⟩))), (1, 1, (.c (.str ⟨#[116, 114, 117, 101]⟩)))] },
    { op := .alloc 3 false [.str ⟨#[]⟩, .str ⟨#[]⟩] [] },
    { op := .store (.s 3) (.s 4) 2 false }] none false [1, 3] [1, 3])
  (.seq (.seq (.region [{ op := .faddr 5 0 (.s 1) },
    { op := .load 6 1 false (.s 5) }] none false [1, 3, 6] [1, 3])
  (.block 0 (.seq (.region [{ op := .bin 8 .eql (.s 6) (.c (.int .i64 1)) },
    { op := .mov 7 (.s 8) false }] none false [1, 3, 6, 7] [1, 3])
  (.cond (.s 7) (.seq (.region [{ op := .faddr 9 1 (.s 1) },
    { op := .load 10 1 false (.s 9) },
    { op := .call (some 11) 43 [(.s 10), (.c (.int .i64 10))] },
    { op := .mov 2 (.s 11) false }] none false [2] [])
  .ret) (.seq (.region [{ op := .bin 13 .eql (.s 6) (.c (.int .i64 2)) },
    { op := .mov 12 (.s 13) false }] none false [1, 3, 6, 12] [1, 3])
  (.cond (.s 12) (.seq (.region [{ op := .faddr 14 1 (.s 1) },
    { op := .load 15 1 false (.s 14) },
    { op := .iaddrA 16 2 1 (.s 3) (.s 15) },
    { op := .load 17 1 false (.s 16) },
    { op := .mov 2 (.s 17) false }] none false [2] [])
  .ret) (.seq (.region [{ op := .bin 19 .eql (.s 6) (.c (.int .i64 3)) },
    { op := .mov 18 (.s 19) false }] none false [1, 18] [1])
  (.cond (.s 18) (.seq (.region [{ op := .faddr 20 2 (.s 1) },
    { op := .load 21 1 false (.s 20) },
    { op := .call (some 22) 55 [(.s 21), (.c (.str ⟨#[39]⟩)), (.c (.str ⟨#[39, 39]⟩))] },
    { op := .bin 23 .add (.c (.str ⟨#[39]⟩)) (.s 22) },
    { op := .bin 24 .add (.s 23) (.c (.str ⟨#[39]⟩)) },
    { op := .mov 2 (.s 24) false }] none false [2] [])
  .ret) (.skip [] [])))))))))
  (.seq (.region [{ op := .mov 2 (.c (.str ⟨#[110, 117, 108, 108]⟩)) false }] none false [2] [])
  .ret)))) }

-- tactician/tacticianref01.printable
def a69_l0 : ACode := (.seq (.seq (.region [{ op := .mov 4 (.s 3) false },
    { op := .mov 5 (.s 0) false },
    { op := .len 6 true (.s 5) },
    { op := .bin 7 .lss (.s 4) (.s 6) }] none false [0, 3, 7] [])
  (.cond (.s 7) (.skip [0, 3] []) (.exit 0 [] [])))
  (.seq (.block 1 (.seq (.region [{ op := .mov 10 (.s 0) false },
    { op := .mov 11 (.s 3) false },
    { op := .idxS 12 (.s 10) (.s 11) },
    { op := .bin 13 .lss (.s 12) (.c (.int .u8 32)) },
    { op := .mov 14 (.s 13) false },
    { op := .mov 15 (.s 0) false, gd := some (14, false) },
    { op := .mov 16 (.s 3) false, gd := some (14, false) },
    { op := .idxS 17 (.s 15) (.s 16), gd := some (14, false) },
    { op := .bin 18 .gtr (.s 17) (.c (.int .u8 126)), gd := some (14, false) },
    { op := .pick 19 (.s 14) (.c (.bool true)) (.s 18) }] none false [0, 3, 19] [])
  (.cond (.s 19) (.seq (.region [{ op := .mov 2 (.c (.bool false)) false }] none false [2] [])
  .ret) (.skip [0, 3] []))))
  (.region [{ op := .mov 8 (.s 3) false },
    { op := .bin 9 .add (.s 8) (.c (.int .i64 1)) },
    { op := .mov 3 (.s 9) false }] none false [0, 3] [])))
def a69 : AFun := { n := 1, N := 20, res := [.tmp 2], body :=
  (.seq (.region [{ op := .mov 2 (.c (.bool false)) false }] none false [0] [])
  (.seq (.seq (.region [{ op := .mov 3 (.c (.int .i64 0)) false }] none false [0, 3] [])
  (.block 0 (.loop a69_l0)))
  (.seq (.region [{ op := .mov 2 (.c (.bool true)) false }] none false [2] [])
  .ret))) }

-- tactician/value.printable
def a72_l0 : ACode := (.seq (.region [{ op := .bin 7 .lss (.s 6) (.s 5) }] none false [0, 5, 6, 7] [])
  (.seq (.cond (.s 7) (.skip [0, 5, 6] []) (.exit 0 [] []))
  (.seq (.block 1 (.seq (.region [{ op := .mov 8 (.s 6) false },
    { op := .mov 3 (.s 8) false }] none false [0, 3, 5, 6] [])
  (.seq (.region [{ op := .mov 9 (.s 0) false },
    { op := .mov 10 (.s 3) false },
    { op := .idxS 11 (.s 9) (.s 10) },
    { op := .bin 12 .lss (.s 11) (.c (.int .u8 32)) },
    { op := .mov 13 (.s 12) false },
    { op := .mov 14 (.s 0) false, gd := some (13, false) },
    { op := .mov 15 (.s 3) false, gd := some (13, false) },
    { op := .idxS 16 (.s 14) (.s 15), gd := some (13, false) },
    { op := .bin 17 .gtr (.s 16) (.c (.int .u8 126)), gd := some (13, false) },
    { op := .pick 18 (.s 13) (.c (.bool true)) (.s 17) }] none false [0, 5, 6, 18] [])
  (.cond (.s 18) (.seq (.region [{ op := .mov 2 (.c (.bool false)) false }] none false [2] [])
  .ret) (.skip [0, 5, 6] [])))))
  (.region [{ op := .bin 19 .add (.s 6) (.c (.int .i64 1)) },
    { op := .mov 6 (.s 19) false }] none false [0, 5, 6] []))))
def a72 : AFun := { n := 1, N := 20, res := [.tmp 2], body :=
  (.seq (.region [{ op := .mov 2 (.c (.bool false)) false }] none false [0] [])
  (.seq (.seq (.region [{ op := .mov 4 (.s 0) false },
    { op := .len 5 true (.s 4) },
    { op := .mov 6 (.c (.int .i64 0)) false }] none false [0, 5, 6] [])
  (.block 0 (.loop a72_l0)))
  (.seq (.region [{ op := .mov 2 (.c (.bool true)) false }] none false [2] [])
  .ret))) }

def tabA : List (Nat × AFun) := [(3, a3), (4, a4), (6, a6), (7, a7), (8, a8), (9, a9), (10, a10), (11, a11), (12, a12), (13, a13), (14, a14), (15, a15), (16, a16), (17, a17), (18, a18), (19, a19), (20, a20), (21, a21), (22, a22), (23, a23), (24, a24), (25, a25), (26, a26), (27, a27), (28, a28), (29, a29), (30, a30), (31, a31), (33, a33), (34, a34), (35, a35), (36, a36), (37, a37), (38, a38), (40, a40), (41, a41), (44, a44), (45, a45), (46, a46), (47, a47), (48, a48), (49, a49), (52, a52), (53, a53), (54, a54), (56, a56), (57, a57), (69, a69), (72, a72)]
def tabX : List (Nat × Ext') := [(32, xFields), (39, xMapS 40), (42, xParseInt 110), (43, xFormatInt), (55, xReplaceAll)]
theorem mixed : Tryz.prog.follows .mixedOrders = true := by kernel_rfl
theorem tabA_ok : tabA.all (fun p => mFun Tryz.prog p.1 p.2) = true := by kernel_rfl
end Go.Av
