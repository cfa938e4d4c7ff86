import Derived.Test.YtcpiohklljppaaaAISem17
import Derived.Test.YtcpiohklljppaaaProg
namespace Go.Proofs.YtcpiohklljppaaaW.AI.D
open Go Go.Proofs.YtcpiohklljppaaaW.AI
/-- gosem.cut.init -/
def M2 : MFunc := ⟨.reg [⟨some 0, .call 1 [], none⟩],
 [], true⟩
/-- ephemeris/ephemerislaw19.SpanRules -/
def M3 : MFunc := ⟨.seq (.reg [⟨some 5, .bx (some .i64) 5 (.t 2), none⟩,
  ⟨some 6, .mv (.c (.bool false)), none⟩])
 (.seq (.reg [⟨some 18, .mv (.t 0), none⟩,
  ⟨some 19, .mv (.t 1), none⟩,
  ⟨some 20, .call 15 [(.t 18), (.t 19)], none⟩,
  ⟨some 17, .mv (.t 20), none⟩,
  ⟨some 21, .ex 0 (.t 17), none⟩,
  ⟨some 22, .ex 1 (.t 17), none⟩,
  ⟨some 7, .mv (.t 21), none⟩,
  ⟨some 8, .mv (.t 22), none⟩])
 (.seq (.reg [⟨some 24, .mv (.t 0), none⟩,
  ⟨some 25, .mv (.t 1), none⟩,
  ⟨some 26, .call 16 [(.t 24), (.t 25)], none⟩,
  ⟨some 23, .mv (.t 26), none⟩,
  ⟨some 27, .ex 0 (.t 23), none⟩,
  ⟨some 28, .ex 1 (.t 23), none⟩,
  ⟨some 9, .mv (.t 27), none⟩,
  ⟨some 10, .mv (.t 28), none⟩])
 (.seq (.seq (.reg [⟨some 29, .call 17 [], none⟩,
  ⟨some 30, .un .not (.t 29), none⟩,
  ⟨some 31, .mv (.t 30), none⟩,
  ⟨some 32, .mv (.t 8), some (31, false)⟩,
  ⟨some 33, .mv (.t 10), some (31, false)⟩,
  ⟨some 34, .bin .neq [] (.t 32) (.t 33), some (31, false)⟩,
  ⟨some 35, .pick (.t 31) (.c (.bool true)) (.t 34), none⟩,
  ⟨some 36, .mv (.t 35), none⟩,
  ⟨some 37, .mv (.t 7), some (36, false)⟩,
  ⟨some 38, .bin .eql [2] (.t 37) (.c .nilp), some (36, false)⟩,
  ⟨some 39, .mv (.t 9), some (36, false)⟩,
  ⟨some 40, .bin .eql [2] (.t 39) (.c .nilp), some (36, false)⟩,
  ⟨some 41, .bin .neq [1] (.t 38) (.t 40), some (36, false)⟩,
  ⟨some 42, .pick (.t 36) (.c (.bool true)) (.t 41), none⟩])
 (.cond (.t 42)
 (.seq (.reg [⟨some 6, .mv (.c (.bool false)), none⟩])
 (.ret))
 (.skip)))
 (.seq (.seq (.reg [⟨some 43, .mv (.t 9), none⟩,
  ⟨some 44, .bin .eql [2] (.t 43) (.c .nilp), none⟩])
 (.cond (.t 44)
 (.seq (.reg [⟨some 46, .mv (.t 7), none⟩,
  ⟨some 47, .call 18 [(.t 46), (.c (.int .i64 0)), (.c (.int .i64 0)), (.c (.int .i64 0)), (.c (.int .i64 0)), (.c (.int .i64 0))], none⟩,
  ⟨some 45, .mv (.t 47), none⟩,
  ⟨some 48, .ex 0 (.t 45), none⟩,
  ⟨some 49, .ex 1 (.t 45), none⟩,
  ⟨some 11, .al (.ints .i64 [0, 0, 0]), none⟩,
  ⟨none, .st 3 (.t 11) (.t 48), none⟩,
  ⟨some 12, .mv (.t 49), none⟩])
 (.seq (.reg [⟨some 50, .mv (.t 12), none⟩,
  ⟨some 51, .bin .eql [] (.t 50) (.c (.int .i64 2)), none⟩,
  ⟨some 52, .mv (.t 51), none⟩,
  ⟨some 53, .mv (.t 7), some (52, true)⟩,
  ⟨some 54, .call 19 [(.t 53), (.c (.int .i64 5))], some (52, true)⟩,
  ⟨some 55, .bin .eql [] (.t 54) (.c (.int .i64 0)), some (52, true)⟩,
  ⟨some 56, .pick (.t 52) (.t 55) (.c (.bool false)), none⟩,
  ⟨some 57, .mv (.t 56), none⟩,
  ⟨some 58, .mv (.t 7), some (57, true)⟩,
  ⟨some 59, .call 20 [(.t 58), (.c (.int .i64 5))], some (57, true)⟩,
  ⟨some 60, .bin .eql [] (.t 59) (.c (.int .i64 0)), some (57, true)⟩,
  ⟨some 61, .pick (.t 57) (.t 60) (.c (.bool false)), none⟩,
  ⟨some 6, .mv (.t 61), none⟩])
 (.ret)))
 (.skip)))
 (.seq (.reg [⟨some 63, .mv (.t 7), none⟩,
  ⟨some 64, .fa 0 (.t 5), none⟩,
  ⟨some 65, .ld none (.t 64), none⟩,
  ⟨some 66, .fa 1 (.t 5), none⟩,
  ⟨some 67, .ld none (.t 66), none⟩,
  ⟨some 68, .fa 2 (.t 5), none⟩,
  ⟨some 69, .ld none (.t 68), none⟩,
  ⟨some 70, .fa 3 (.t 5), none⟩,
  ⟨some 71, .ld none (.t 70), none⟩,
  ⟨some 72, .fa 4 (.t 5), none⟩,
  ⟨some 73, .ld none (.t 72), none⟩,
  ⟨some 74, .call 18 [(.t 63), (.t 65), (.t 67), (.t 69), (.t 71), (.t 73)], none⟩,
  ⟨some 62, .mv (.t 74), none⟩,
  ⟨some 75, .ex 0 (.t 62), none⟩,
  ⟨some 76, .ex 1 (.t 62), none⟩,
  ⟨some 13, .al (.ints .i64 [0, 0, 0]), none⟩,
  ⟨none, .st 3 (.t 13) (.t 75), none⟩,
  ⟨some 14, .mv (.t 76), none⟩])
 (.seq (.reg [⟨some 78, .mv (.t 9), none⟩,
  ⟨some 79, .fa 0 (.t 5), none⟩,
  ⟨some 80, .ld none (.t 79), none⟩,
  ⟨some 81, .fa 1 (.t 5), none⟩,
  ⟨some 82, .ld none (.t 81), none⟩,
  ⟨some 83, .fa 2 (.t 5), none⟩,
  ⟨some 84, .ld none (.t 83), none⟩,
  ⟨some 85, .fa 3 (.t 5), none⟩,
  ⟨some 86, .ld none (.t 85), none⟩,
  ⟨some 87, .fa 4 (.t 5), none⟩,
  ⟨some 88, .ld none (.t 87), none⟩,
  ⟨some 89, .call 21 [(.t 78), (.t 80), (.t 82), (.t 84), (.t 86), (.t 88)], none⟩,
  ⟨some 77, .mv (.t 89), none⟩,
  ⟨some 90, .ex 0 (.t 77), none⟩,
  ⟨some 91, .ex 1 (.t 77), none⟩,
  ⟨some 15, .al (.ints .i64 [0, 0, 0]), none⟩,
  ⟨none, .st 3 (.t 15) (.t 90), none⟩,
  ⟨some 16, .mv (.t 91), none⟩])
 (.seq (.regd [(0, ⟨some 92, .mv (.t 7), none⟩),
  (1, ⟨some 93, .fa 0 (.t 5), none⟩),
  (2, ⟨some 94, .ld none (.t 93), none⟩),
  (3, ⟨some 95, .call 19 [(.t 92), (.t 94)], none⟩),
  (4, ⟨some 96, .mv (.t 9), none⟩),
  (5, ⟨some 97, .fa 0 (.t 5), none⟩),
  (6, ⟨some 98, .ld none (.t 97), none⟩),
  (7, ⟨some 99, .call 22 [(.t 96), (.t 98)], none⟩),
  (8, ⟨some 100, .bin .eql [] (.t 95) (.t 99), none⟩),
  (9, ⟨some 101, .mv (.t 100), none⟩),
  (10, ⟨some 102, .mv (.t 7), some (101, true)⟩),
  (11, ⟨some 103, .fa 0 (.t 5), some (101, true)⟩),
  (12, ⟨some 104, .ld none (.t 103), some (101, true)⟩),
  (13, ⟨some 105, .call 20 [(.t 102), (.t 104)], some (101, true)⟩),
  (14, ⟨some 106, .mv (.t 9), some (101, true)⟩),
  (15, ⟨some 107, .fa 0 (.t 5), some (101, true)⟩),
  (16, ⟨some 108, .ld none (.t 107), some (101, true)⟩),
  (17, ⟨some 109, .call 23 [(.t 106), (.t 108)], some (101, true)⟩),
  (18, ⟨some 110, .bin .eql [] (.t 105) (.t 109), some (101, true)⟩),
  (19, ⟨some 111, .pick (.t 101) (.t 110) (.c (.bool false)), none⟩),
  (20, ⟨some 112, .mv (.t 111), none⟩),
  (21, ⟨some 113, .mv (.t 7), some (112, true)⟩),
  (22, ⟨some 114, .fa 4 (.t 5), some (112, true)⟩),
  (23, ⟨some 115, .ld none (.t 114), some (112, true)⟩),
  (24, ⟨some 116, .call 19 [(.t 113), (.t 115)], some (112, true)⟩),
  (25, ⟨some 117, .mv (.t 9), some (112, true)⟩),
  (26, ⟨some 118, .fa 4 (.t 5), some (112, true)⟩),
  (27, ⟨some 119, .ld none (.t 118), some (112, true)⟩),
  (28, ⟨some 120, .call 22 [(.t 117), (.t 119)], some (112, true)⟩),
  (29, ⟨some 121, .bin .eql [] (.t 116) (.t 120), some (112, true)⟩),
  (30, ⟨some 122, .pick (.t 112) (.t 121) (.c (.bool false)), none⟩),
  (31, ⟨some 123, .mv (.t 122), none⟩),
  (32, ⟨some 124, .mv (.t 7), some (123, true)⟩),
  (33, ⟨some 125, .fa 4 (.t 5), some (123, true)⟩),
  (34, ⟨some 126, .ld none (.t 125), some (123, true)⟩),
  (35, ⟨some 127, .call 20 [(.t 124), (.t 126)], some (123, true)⟩),
  (36, ⟨some 128, .mv (.t 9), some (123, true)⟩),
  (37, ⟨some 129, .fa 4 (.t 5), some (123, true)⟩),
  (38, ⟨some 130, .ld none (.t 129), some (123, true)⟩),
  (39, ⟨some 131, .call 23 [(.t 128), (.t 130)], some (123, true)⟩),
  (40, ⟨some 132, .bin .eql [] (.t 127) (.t 131), some (123, true)⟩),
  (41, ⟨some 133, .pick (.t 123) (.t 132) (.c (.bool false)), none⟩),
  (42, ⟨some 134, .mv (.t 133), none⟩),
  (43, ⟨some 135, .ld (some 3) (.t 13), some (134, true)⟩),
  (44, ⟨some 136, .ld (some 3) (.t 15), some (134, true)⟩),
  (45, ⟨some 137, .bin .eql [5, 0, 0, 0] (.t 135) (.t 136), some (134, true)⟩),
  (46, ⟨some 138, .pick (.t 134) (.t 137) (.c (.bool false)), none⟩),
  (47, ⟨some 139, .mv (.t 138), none⟩),
  (48, ⟨some 140, .mv (.t 14), some (139, true)⟩),
  (49, ⟨some 141, .mv (.t 16), some (139, true)⟩),
  (50, ⟨some 142, .bin .eql [] (.t 140) (.t 141), some (139, true)⟩),
  (51, ⟨some 143, .pick (.t 139) (.t 142) (.c (.bool false)), none⟩),
  (52, ⟨some 6, .mv (.t 143), none⟩)] [(6, 3), (16, 13), (27, 24), (38, 35)])
 (.ret)))))))),
 [.tmp 6], true⟩
/-- ephemeris/ephemerislaw19.SpanGrows -/
def M4 : MFunc := ⟨.seq (.reg [⟨some 3, .bx (some .u64) 3 (.t 0), none⟩,
  ⟨some 6, .mv (.c (.bool false)), none⟩])
 (.seq (.reg [⟨some 14, .fa 0 (.t 3), none⟩,
  ⟨some 15, .ld none (.t 14), none⟩,
  ⟨some 16, .bin .rem [] (.t 15) (.c (.int .u64 1000000000)), none⟩,
  ⟨some 17, .ci .i64 (.t 16), none⟩,
  ⟨some 18, .bin .add [] (.c (.int .i64 1)) (.t 17), none⟩,
  ⟨some 19, .fa 1 (.t 3), none⟩,
  ⟨some 20, .ld none (.t 19), none⟩,
  ⟨some 21, .bin .rem [] (.t 20) (.c (.int .u64 500001)), none⟩,
  ⟨some 22, .ci .i64 (.t 21), none⟩,
  ⟨some 23, .call 15 [(.t 18), (.t 22)], none⟩,
  ⟨some 13, .mv (.t 23), none⟩,
  ⟨some 24, .ex 0 (.t 13), none⟩,
  ⟨some 25, .ex 1 (.t 13), none⟩,
  ⟨some 7, .mv (.t 24), none⟩,
  ⟨some 8, .mv (.t 25), none⟩])
 (.seq (.seq (.reg [⟨some 26, .call 17 [], none⟩,
  ⟨some 27, .un .not (.t 26), none⟩,
  ⟨some 28, .mv (.t 27), none⟩,
  ⟨some 29, .mv (.t 8), some (28, false)⟩,
  ⟨some 30, .bin .neq [] (.t 29) (.c (.int .i64 0)), some (28, false)⟩,
  ⟨some 31, .pick (.t 28) (.c (.bool true)) (.t 30), none⟩])
 (.cond (.t 31)
 (.seq (.reg [⟨some 6, .mv (.c (.bool false)), none⟩])
 (.ret))
 (.skip)))
 (.seq (.reg [⟨some 32, .mv (.t 1), none⟩,
  ⟨some 33, .bin .rem [] (.t 32) (.c (.int .u64 1152921504606846976)), none⟩,
  ⟨some 34, .mv (.t 2), none⟩,
  ⟨some 35, .bin .rem [] (.t 34) (.c (.int .u64 1152921504606846976)), none⟩,
  ⟨some 36, .mnx false [(.t 33), (.t 35)], none⟩,
  ⟨some 37, .ci .i64 (.t 36), none⟩,
  ⟨some 38, .mv (.t 1), none⟩,
  ⟨some 39, .bin .rem [] (.t 38) (.c (.int .u64 1152921504606846976)), none⟩,
  ⟨some 40, .mv (.t 2), none⟩,
  ⟨some 41, .bin .rem [] (.t 40) (.c (.int .u64 1152921504606846976)), none⟩,
  ⟨some 42, .mnx true [(.t 39), (.t 41)], none⟩,
  ⟨some 43, .ci .i64 (.t 42), none⟩,
  ⟨some 9, .mv (.t 37), none⟩,
  ⟨some 10, .mv (.t 43), none⟩])
 (.seq (.reg [⟨some 44, .mv (.t 7), none⟩,
  ⟨some 45, .mv (.t 9), none⟩,
  ⟨some 46, .call 19 [(.t 44), (.t 45)], none⟩,
  ⟨some 47, .mv (.t 7), none⟩,
  ⟨some 48, .mv (.t 9), none⟩,
  ⟨some 49, .call 20 [(.t 47), (.t 48)], none⟩,
  ⟨some 11, .mv (.t 46), none⟩,
  ⟨some 12, .mv (.t 49), none⟩])
 (.seq (.reg [⟨some 50, .mv (.t 11), none⟩,
  ⟨some 51, .mv (.t 7), none⟩,
  ⟨some 52, .mv (.t 10), none⟩,
  ⟨some 53, .call 19 [(.t 51), (.t 52)], none⟩,
  ⟨some 54, .bin .leq [] (.t 50) (.t 53), none⟩,
  ⟨some 55, .mv (.t 54), none⟩,
  ⟨some 56, .mv (.t 12), some (55, true)⟩,
  ⟨some 57, .mv (.t 7), some (55, true)⟩,
  ⟨some 58, .mv (.t 10), some (55, true)⟩,
  ⟨some 59, .call 20 [(.t 57), (.t 58)], some (55, true)⟩,
  ⟨some 60, .bin .leq [] (.t 56) (.t 59), some (55, true)⟩,
  ⟨some 61, .pick (.t 55) (.t 60) (.c (.bool false)), none⟩,
  ⟨some 62, .mv (.t 61), none⟩,
  ⟨some 63, .mv (.t 12), some (62, true)⟩,
  ⟨some 64, .mv (.t 9), some (62, true)⟩,
  ⟨some 65, .bin .leq [] (.t 63) (.t 64), some (62, true)⟩,
  ⟨some 66, .pick (.t 62) (.t 65) (.c (.bool false)), none⟩,
  ⟨some 67, .mv (.t 66), none⟩,
  ⟨some 68, .mv (.t 11), some (67, true)⟩,
  ⟨some 69, .mv (.t 9), some (67, true)⟩,
  ⟨some 70, .bin .gtr [] (.t 68) (.t 69), some (67, true)⟩,
  ⟨some 71, .pick (.t 67) (.t 70) (.c (.bool false)), none⟩,
  ⟨some 72, .mv (.t 71), none⟩,
  ⟨some 73, .mv (.t 7), some (72, true)⟩,
  ⟨some 74, .mv (.t 9), some (72, true)⟩,
  ⟨some 75, .call 19 [(.t 73), (.t 74)], some (72, true)⟩,
  ⟨some 76, .mv (.t 7), some (72, true)⟩,
  ⟨some 77, .mv (.t 10), some (72, true)⟩,
  ⟨some 78, .call 19 [(.t 76), (.t 77)], some (72, true)⟩,
  ⟨some 79, .bin .add [] (.t 75) (.t 78), some (72, true)⟩,
  ⟨some 80, .mv (.t 7), some (72, true)⟩,
  ⟨some 81, .mv (.t 9), some (72, true)⟩,
  ⟨some 82, .mv (.t 10), some (72, true)⟩,
  ⟨some 83, .bin .add [] (.t 81) (.t 82), some (72, true)⟩,
  ⟨some 84, .call 19 [(.t 80), (.t 83)], some (72, true)⟩,
  ⟨some 85, .bin .geq [] (.t 79) (.t 84), some (72, true)⟩,
  ⟨some 86, .pick (.t 72) (.t 85) (.c (.bool false)), none⟩,
  ⟨some 87, .mv (.t 86), none⟩,
  ⟨some 88, .mv (.t 7), some (87, true)⟩,
  ⟨some 89, .mv (.t 9), some (87, true)⟩,
  ⟨some 90, .call 20 [(.t 88), (.t 89)], some (87, true)⟩,
  ⟨some 91, .mv (.t 7), some (87, true)⟩,
  ⟨some 92, .mv (.t 10), some (87, true)⟩,
  ⟨some 93, .call 20 [(.t 91), (.t 92)], some (87, true)⟩,
  ⟨some 94, .bin .add [] (.t 90) (.t 93), some (87, true)⟩,
  ⟨some 95, .mv (.t 7), some (87, true)⟩,
  ⟨some 96, .mv (.t 9), some (87, true)⟩,
  ⟨some 97, .mv (.t 10), some (87, true)⟩,
  ⟨some 98, .bin .add [] (.t 96) (.t 97), some (87, true)⟩,
  ⟨some 99, .call 20 [(.t 95), (.t 98)], some (87, true)⟩,
  ⟨some 100, .bin .add [] (.t 99) (.c (.int .i64 1)), some (87, true)⟩,
  ⟨some 101, .bin .leq [] (.t 94) (.t 100), some (87, true)⟩,
  ⟨some 102, .pick (.t 87) (.t 101) (.c (.bool false)), none⟩,
  ⟨some 103, .mv (.t 102), none⟩,
  ⟨some 104, .mv (.t 7), some (103, true)⟩,
  ⟨some 105, .call 19 [(.t 104), (.c (.int .i64 (-5)))], some (103, true)⟩,
  ⟨some 106, .mv (.t 7), some (103, true)⟩,
  ⟨some 107, .call 19 [(.t 106), (.c (.int .i64 0))], some (103, true)⟩,
  ⟨some 108, .bin .eql [] (.t 105) (.t 107), some (103, true)⟩,
  ⟨some 109, .pick (.t 103) (.t 108) (.c (.bool false)), none⟩,
  ⟨some 110, .mv (.t 109), none⟩,
  ⟨some 111, .mv (.t 7), some (110, true)⟩,
  ⟨some 112, .call 20 [(.t 111), (.c (.int .i64 (-5)))], some (110, true)⟩,
  ⟨some 113, .bin .eql [] (.t 112) (.c (.int .i64 0)), some (110, true)⟩,
  ⟨some 114, .pick (.t 110) (.t 113) (.c (.bool false)), none⟩,
  ⟨some 6, .mv (.t 114), none⟩])
 (.ret)))))),
 [.tmp 6], true⟩
/-- ephemeris/ephemerislaw19.SpanSooner -/
def M5 : MFunc := ⟨.seq (.reg [⟨some 4, .bx (some .u64) 3 (.t 0), none⟩,
  ⟨some 8, .mv (.c (.bool false)), none⟩])
 (.seq (.regd [(0, ⟨some 25, .fa 0 (.t 4), none⟩),
  (1, ⟨some 26, .ld none (.t 25), none⟩),
  (2, ⟨some 27, .bin .rem [] (.t 26) (.c (.int .u64 1000000000)), none⟩),
  (3, ⟨some 28, .ci .i64 (.t 27), none⟩),
  (4, ⟨some 29, .bin .add [] (.c (.int .i64 1)) (.t 28), none⟩),
  (5, ⟨some 30, .fa 1 (.t 4), none⟩),
  (6, ⟨some 31, .ld none (.t 30), none⟩),
  (7, ⟨some 32, .bin .rem [] (.t 31) (.c (.int .u64 500001)), none⟩),
  (8, ⟨some 33, .ci .i64 (.t 32), none⟩),
  (9, ⟨some 34, .fa 2 (.t 4), none⟩),
  (10, ⟨some 35, .ld none (.t 34), none⟩),
  (11, ⟨some 36, .bin .rem [] (.t 35) (.c (.int .u64 1125899906842624)), none⟩),
  (12, ⟨some 37, .ci .i64 (.t 36), none⟩),
  (13, ⟨some 9, .mv (.t 29), none⟩),
  (14, ⟨some 10, .mv (.t 33), none⟩),
  (15, ⟨some 11, .mv (.t 37), none⟩)] [])
 (.seq (.reg [⟨some 39, .mv (.t 9), none⟩,
  ⟨some 40, .mv (.t 10), none⟩,
  ⟨some 41, .call 15 [(.t 39), (.t 40)], none⟩,
  ⟨some 38, .mv (.t 41), none⟩,
  ⟨some 42, .ex 0 (.t 38), none⟩,
  ⟨some 43, .ex 1 (.t 38), none⟩,
  ⟨some 12, .mv (.t 42), none⟩,
  ⟨some 13, .mv (.t 43), none⟩])
 (.seq (.seq (.reg [⟨some 44, .call 17 [], none⟩,
  ⟨some 45, .un .not (.t 44), none⟩,
  ⟨some 46, .mv (.t 45), none⟩,
  ⟨some 47, .mv (.t 13), some (46, false)⟩,
  ⟨some 48, .bin .neq [] (.t 47) (.c (.int .i64 0)), some (46, false)⟩,
  ⟨some 49, .pick (.t 46) (.c (.bool true)) (.t 48), none⟩])
 (.cond (.t 49)
 (.seq (.reg [⟨some 8, .mv (.c (.bool false)), none⟩])
 (.ret))
 (.skip)))
 (.seq (.reg [⟨some 50, .mv (.t 1), none⟩,
  ⟨some 51, .bin .rem [] (.t 50) (.c (.int .u64 1125899906842624)), none⟩,
  ⟨some 52, .ci .i64 (.t 51), none⟩,
  ⟨some 14, .mv (.t 52), none⟩])
 (.seq (.reg [⟨some 53, .mv (.t 14), none⟩,
  ⟨some 54, .mv (.t 2), none⟩,
  ⟨some 55, .mv (.t 14), none⟩,
  ⟨some 56, .bin .add [] (.t 55) (.c (.int .i64 1)), none⟩,
  ⟨some 57, .ci .u64 (.t 56), none⟩,
  ⟨some 58, .bin .rem [] (.t 54) (.t 57), none⟩,
  ⟨some 59, .ci .i64 (.t 58), none⟩,
  ⟨some 60, .bin .sub [] (.t 53) (.t 59), none⟩,
  ⟨some 15, .mv (.t 60), none⟩])
 (.seq (.reg [⟨some 61, .mv (.t 11), none⟩,
  ⟨some 62, .mv (.t 3), none⟩,
  ⟨some 63, .mv (.t 11), none⟩,
  ⟨some 64, .bin .add [] (.t 63) (.c (.int .i64 1)), none⟩,
  ⟨some 65, .ci .u64 (.t 64), none⟩,
  ⟨some 66, .bin .rem [] (.t 62) (.t 65), none⟩,
  ⟨some 67, .ci .i64 (.t 66), none⟩,
  ⟨some 68, .bin .sub [] (.t 61) (.t 67), none⟩,
  ⟨some 16, .mv (.t 68), none⟩])
 (.seq (.reg [⟨some 70, .mv (.t 12), none⟩,
  ⟨some 71, .mv (.t 14), none⟩,
  ⟨some 72, .mv (.t 11), none⟩,
  ⟨some 73, .call 18 [(.t 70), (.c (.int .i64 0)), (.t 71), (.c (.int .i64 36028797018963968)), (.c (.int .i64 36028797018963968)), (.t 72)], none⟩,
  ⟨some 69, .mv (.t 73), none⟩,
  ⟨some 74, .ex 0 (.t 69), none⟩,
  ⟨some 75, .ex 1 (.t 69), none⟩,
  ⟨some 17, .al (.ints .i64 [0, 0, 0]), none⟩,
  ⟨none, .st 3 (.t 17) (.t 74), none⟩,
  ⟨some 18, .mv (.t 75), none⟩])
 (.seq (.reg [⟨some 77, .mv (.t 12), none⟩,
  ⟨some 78, .mv (.t 15), none⟩,
  ⟨some 79, .mv (.t 11), none⟩,
  ⟨some 80, .call 18 [(.t 77), (.c (.int .i64 0)), (.t 78), (.c (.int .i64 36028797018963968)), (.c (.int .i64 36028797018963968)), (.t 79)], none⟩,
  ⟨some 76, .mv (.t 80), none⟩,
  ⟨some 81, .ex 0 (.t 76), none⟩,
  ⟨some 82, .ex 1 (.t 76), none⟩,
  ⟨some 19, .al (.ints .i64 [0, 0, 0]), none⟩,
  ⟨none, .st 3 (.t 19) (.t 81), none⟩,
  ⟨some 20, .mv (.t 82), none⟩])
 (.seq (.reg [⟨some 84, .mv (.t 12), none⟩,
  ⟨some 85, .mv (.t 14), none⟩,
  ⟨some 86, .mv (.t 16), none⟩,
  ⟨some 87, .call 18 [(.t 84), (.c (.int .i64 0)), (.t 85), (.c (.int .i64 36028797018963968)), (.c (.int .i64 36028797018963968)), (.t 86)], none⟩,
  ⟨some 83, .mv (.t 87), none⟩,
  ⟨some 88, .ex 0 (.t 83), none⟩,
  ⟨some 89, .ex 1 (.t 83), none⟩,
  ⟨some 21, .al (.ints .i64 [0, 0, 0]), none⟩,
  ⟨none, .st 3 (.t 21) (.t 88), none⟩,
  ⟨some 22, .mv (.t 89), none⟩])
 (.seq (.reg [⟨some 91, .mv (.t 12), none⟩,
  ⟨some 92, .mv (.t 14), none⟩,
  ⟨some 93, .mv (.t 3), none⟩,
  ⟨some 94, .bin .rem [] (.t 93) (.c (.int .u64 18014398509481984)), none⟩,
  ⟨some 95, .ci .i64 (.t 94), none⟩,
  ⟨some 96, .bin .add [] (.c (.int .i64 36028797018963968)) (.t 95), none⟩,
  ⟨some 97, .mv (.t 3), none⟩,
  ⟨some 98, .bin .rem [] (.t 97) (.c (.int .u64 18014398509481984)), none⟩,
  ⟨some 99, .ci .i64 (.t 98), none⟩,
  ⟨some 100, .bin .add [] (.c (.int .i64 36028797018963968)) (.t 99), none⟩,
  ⟨some 101, .mv (.t 11), none⟩,
  ⟨some 102, .call 18 [(.t 91), (.c (.int .i64 0)), (.t 92), (.t 96), (.t 100), (.t 101)], none⟩,
  ⟨some 90, .mv (.t 102), none⟩,
  ⟨some 103, .ex 0 (.t 90), none⟩,
  ⟨some 104, .ex 1 (.t 90), none⟩,
  ⟨some 23, .al (.ints .i64 [0, 0, 0]), none⟩,
  ⟨none, .st 3 (.t 23) (.t 103), none⟩,
  ⟨some 24, .mv (.t 104), none⟩])
 (.seq (.seq (.reg [⟨some 105, .mv (.t 18), none⟩,
  ⟨some 106, .bin .neq [] (.t 105) (.c (.int .i64 0)), none⟩,
  ⟨some 107, .mv (.t 106), none⟩,
  ⟨some 108, .mv (.t 20), some (107, false)⟩,
  ⟨some 109, .bin .neq [] (.t 108) (.c (.int .i64 0)), some (107, false)⟩,
  ⟨some 110, .pick (.t 107) (.c (.bool true)) (.t 109), none⟩,
  ⟨some 111, .mv (.t 110), none⟩,
  ⟨some 112, .mv (.t 22), some (111, false)⟩,
  ⟨some 113, .bin .neq [] (.t 112) (.c (.int .i64 0)), some (111, false)⟩,
  ⟨some 114, .pick (.t 111) (.c (.bool true)) (.t 113), none⟩,
  ⟨some 115, .mv (.t 114), none⟩,
  ⟨some 116, .mv (.t 24), some (115, false)⟩,
  ⟨some 117, .bin .neq [] (.t 116) (.c (.int .i64 0)), some (115, false)⟩,
  ⟨some 118, .pick (.t 115) (.c (.bool true)) (.t 117), none⟩,
  ⟨some 119, .mv (.t 118), none⟩,
  ⟨some 120, .fa 1 (.t 23), some (119, false)⟩,
  ⟨some 121, .ld none (.t 120), some (119, false)⟩,
  ⟨some 122, .fa 1 (.t 17), some (119, false)⟩,
  ⟨some 123, .ld none (.t 122), some (119, false)⟩,
  ⟨some 124, .bin .sub [] (.t 121) (.t 123), some (119, false)⟩,
  ⟨some 125, .mv (.t 3), some (119, false)⟩,
  ⟨some 126, .bin .rem [] (.t 125) (.c (.int .u64 18014398509481984)), some (119, false)⟩,
  ⟨some 127, .ci .i64 (.t 126), some (119, false)⟩,
  ⟨some 128, .bin .neq [] (.t 124) (.t 127), some (119, false)⟩,
  ⟨some 129, .pick (.t 119) (.c (.bool true)) (.t 128), none⟩,
  ⟨some 130, .mv (.t 129), none⟩,
  ⟨some 131, .fa 2 (.t 23), some (130, false)⟩,
  ⟨some 132, .ld none (.t 131), some (130, false)⟩,
  ⟨some 133, .fa 2 (.t 17), some (130, false)⟩,
  ⟨some 134, .ld none (.t 133), some (130, false)⟩,
  ⟨some 135, .bin .sub [] (.t 132) (.t 134), some (130, false)⟩,
  ⟨some 136, .fa 1 (.t 23), some (130, false)⟩,
  ⟨some 137, .ld none (.t 136), some (130, false)⟩,
  ⟨some 138, .fa 1 (.t 17), some (130, false)⟩,
  ⟨some 139, .ld none (.t 138), some (130, false)⟩,
  ⟨some 140, .bin .sub [] (.t 137) (.t 139), some (130, false)⟩,
  ⟨some 141, .bin .neq [] (.t 135) (.t 140), some (130, false)⟩,
  ⟨some 142, .pick (.t 130) (.c (.bool true)) (.t 141), none⟩])
 (.cond (.t 142)
 (.seq (.reg [⟨some 8, .mv (.c (.bool false)), none⟩])
 (.ret))
 (.skip)))
 (.seq (.reg [⟨some 143, .fa 1 (.t 19), none⟩,
  ⟨some 144, .ld none (.t 143), none⟩,
  ⟨some 145, .fa 1 (.t 17), none⟩,
  ⟨some 146, .ld none (.t 145), none⟩,
  ⟨some 147, .bin .eql [] (.t 144) (.t 146), none⟩,
  ⟨some 148, .mv (.t 147), none⟩,
  ⟨some 149, .fa 2 (.t 19), some (148, true)⟩,
  ⟨some 150, .ld none (.t 149), some (148, true)⟩,
  ⟨some 151, .fa 2 (.t 17), some (148, true)⟩,
  ⟨some 152, .ld none (.t 151), some (148, true)⟩,
  ⟨some 153, .bin .leq [] (.t 150) (.t 152), some (148, true)⟩,
  ⟨some 154, .pick (.t 148) (.t 153) (.c (.bool false)), none⟩,
  ⟨some 155, .mv (.t 154), none⟩,
  ⟨some 156, .fa 1 (.t 21), some (155, true)⟩,
  ⟨some 157, .ld none (.t 156), some (155, true)⟩,
  ⟨some 158, .fa 1 (.t 17), some (155, true)⟩,
  ⟨some 159, .ld none (.t 158), some (155, true)⟩,
  ⟨some 160, .bin .sub [] (.t 157) (.t 159), some (155, true)⟩,
  ⟨some 161, .mv (.t 11), some (155, true)⟩,
  ⟨some 162, .mv (.t 16), some (155, true)⟩,
  ⟨some 163, .bin .sub [] (.t 161) (.t 162), some (155, true)⟩,
  ⟨some 164, .bin .eql [] (.t 160) (.t 163), some (155, true)⟩,
  ⟨some 165, .pick (.t 155) (.t 164) (.c (.bool false)), none⟩,
  ⟨some 166, .mv (.t 165), none⟩,
  ⟨some 167, .fa 2 (.t 17), some (166, true)⟩,
  ⟨some 168, .ld none (.t 167), some (166, true)⟩,
  ⟨some 169, .fa 2 (.t 21), some (166, true)⟩,
  ⟨some 170, .ld none (.t 169), some (166, true)⟩,
  ⟨some 171, .bin .sub [] (.t 168) (.t 170), some (166, true)⟩,
  ⟨some 172, .mv (.t 11), some (166, true)⟩,
  ⟨some 173, .mv (.t 16), some (166, true)⟩,
  ⟨some 174, .bin .sub [] (.t 172) (.t 173), some (166, true)⟩,
  ⟨some 175, .bin .eql [] (.t 171) (.t 174), some (166, true)⟩,
  ⟨some 176, .pick (.t 166) (.t 175) (.c (.bool false)), none⟩,
  ⟨some 177, .mv (.t 176), none⟩,
  ⟨some 178, .fa 2 (.t 17), some (177, true)⟩,
  ⟨some 179, .ld none (.t 178), some (177, true)⟩,
  ⟨some 180, .fa 2 (.t 19), some (177, true)⟩,
  ⟨some 181, .ld none (.t 180), some (177, true)⟩,
  ⟨some 182, .bin .sub [] (.t 179) (.t 181), some (177, true)⟩,
  ⟨some 183, .mv (.t 14), some (177, true)⟩,
  ⟨some 184, .mv (.t 15), some (177, true)⟩,
  ⟨some 185, .bin .sub [] (.t 183) (.t 184), some (177, true)⟩,
  ⟨some 186, .bin .sub [] (.t 185) (.c (.int .i64 1)), some (177, true)⟩,
  ⟨some 187, .bin .geq [] (.t 182) (.t 186), some (177, true)⟩,
  ⟨some 188, .pick (.t 177) (.t 187) (.c (.bool false)), none⟩,
  ⟨some 189, .mv (.t 188), none⟩,
  ⟨some 190, .ld (some 3) (.t 17), some (189, true)⟩,
  ⟨some 191, .call 24 [(.t 190)], some (189, true)⟩,
  ⟨some 192, .mv (.t 11), some (189, true)⟩,
  ⟨some 193, .bin .mul [] (.c (.int .i64 2)) (.t 192), some (189, true)⟩,
  ⟨some 194, .bin .geq [] (.t 191) (.t 193), some (189, true)⟩,
  ⟨some 195, .pick (.t 189) (.t 194) (.c (.bool false)), none⟩,
  ⟨some 8, .mv (.t 195), none⟩])
 (.ret))))))))))))),
 [.tmp 8], true⟩
/-- ephemeris/ephemerislaw19.SpanSound -/
def M6 : MFunc := ⟨.seq (.reg [⟨some 3, .bx (some .u64) 3 (.t 0), none⟩,
  ⟨some 4, .bx none 11 (.t 1), none⟩,
  ⟨some 6, .mv (.c (.bool false)), none⟩])
 (.seq (.regd [(0, ⟨some 29, .fa 0 (.t 3), none⟩),
  (1, ⟨some 30, .ld none (.t 29), none⟩),
  (2, ⟨some 31, .bin .rem [] (.t 30) (.c (.int .u64 1000000000)), none⟩),
  (3, ⟨some 32, .ci .i64 (.t 31), none⟩),
  (4, ⟨some 33, .bin .add [] (.c (.int .i64 1)) (.t 32), none⟩),
  (5, ⟨some 34, .fa 1 (.t 3), none⟩),
  (6, ⟨some 35, .ld none (.t 34), none⟩),
  (7, ⟨some 36, .bin .rem [] (.t 35) (.c (.int .u64 500001)), none⟩),
  (8, ⟨some 37, .ci .i64 (.t 36), none⟩),
  (9, ⟨some 38, .fa 2 (.t 3), none⟩),
  (10, ⟨some 39, .ld none (.t 38), none⟩),
  (11, ⟨some 40, .bin .rem [] (.t 39) (.c (.int .u64 1125899906842624)), none⟩),
  (12, ⟨some 41, .ci .i64 (.t 40), none⟩),
  (13, ⟨some 7, .al (.ints .i64 [0]), none⟩),
  (14, ⟨none, .st 1 (.t 7) (.t 33), none⟩),
  (15, ⟨some 8, .mv (.t 37), none⟩),
  (16, ⟨some 9, .mv (.t 41), none⟩)] [(6, 14), (10, 14)])
 (.seq (.reg [⟨some 43, .ld none (.t 7), none⟩,
  ⟨some 44, .mv (.t 8), none⟩,
  ⟨some 45, .call 15 [(.t 43), (.t 44)], none⟩,
  ⟨some 42, .mv (.t 45), none⟩,
  ⟨some 46, .ex 0 (.t 42), none⟩,
  ⟨some 47, .ex 1 (.t 42), none⟩,
  ⟨some 10, .mv (.t 46), none⟩,
  ⟨some 11, .mv (.t 47), none⟩])
 (.seq (.seq (.reg [⟨some 48, .call 17 [], none⟩,
  ⟨some 49, .un .not (.t 48), none⟩,
  ⟨some 50, .mv (.t 49), none⟩,
  ⟨some 51, .mv (.t 11), some (50, false)⟩,
  ⟨some 52, .bin .neq [] (.t 51) (.c (.int .i64 0)), some (50, false)⟩,
  ⟨some 53, .pick (.t 50) (.c (.bool true)) (.t 52), none⟩])
 (.cond (.t 53)
 (.seq (.reg [⟨some 6, .mv (.c (.bool false)), none⟩])
 (.ret))
 (.skip)))
 (.seq (.reg [⟨some 54, .fa 5 (.t 4), none⟩,
  ⟨some 55, .ld none (.t 54), none⟩,
  ⟨some 56, .mv (.t 8), none⟩,
  ⟨some 57, .call 25 [(.t 55), (.t 56)], none⟩,
  ⟨some 12, .al (.ints .i64 [0]), none⟩,
  ⟨none, .st 1 (.t 12) (.t 57), none⟩])
 (.seq (.reg [⟨some 58, .fa 0 (.t 4), none⟩,
  ⟨some 59, .ld none (.t 58), none⟩,
  ⟨some 60, .bin .rem [] (.t 59) (.c (.int .u64 72057594037927936)), none⟩,
  ⟨some 61, .ci .i64 (.t 60), none⟩,
  ⟨some 62, .bin .add [] (.t 61) (.c (.int .i64 2251799813685248)), none⟩,
  ⟨some 13, .mv (.t 62), none⟩])
 (.seq (.reg [⟨some 14, .al (.ints .i64 [0, 0, 0, 0, 0]), none⟩])
 (.seq (.seq (.reg [⟨some 63, .mv (.c (.int .i64 0)), none⟩])
 (.block 0 [2, 4, 7, 9, 10, 12, 14]
 (.loop [2, 4, 7, 9, 10, 12, 13, 14, 63]
 (.seq (.reg [⟨some 64, .bin .lss [] (.t 63) (.c (.int .i64 5)), none⟩])
 (.seq (.cond (.t 64)
 (.skip)
 (.exit 0))
 (.seq (.block 1 [2, 4, 7, 9, 10, 12, 13, 14, 63]
 (.seq (.reg [⟨some 65, .mv (.t 63), none⟩,
  ⟨some 15, .mv (.t 65), none⟩])
 (.seq (.reg [⟨some 66, .mv (.t 15), none⟩,
  ⟨some 67, .mv (.t 13), none⟩,
  ⟨some 68, .ia (some 5) 1 (.t 14) (.t 66), none⟩,
  ⟨none, .st 1 (.t 68) (.t 67), none⟩])
 (.seq (.reg [⟨some 69, .mv (.t 15), none⟩,
  ⟨some 70, .bin .lss [] (.t 69) (.c (.int .i64 4)), none⟩])
 (.cond (.t 70)
 (.reg [⟨some 71, .mv (.t 13), none⟩,
  ⟨some 72, .mv (.t 15), none⟩,
  ⟨some 73, .fa 1 (.t 4), none⟩,
  ⟨some 74, .ia (some 4) 1 (.t 73) (.t 72), none⟩,
  ⟨some 75, .ld none (.t 74), none⟩,
  ⟨some 76, .bin .rem [] (.t 75) (.c (.int .u64 72057594037927936)), none⟩,
  ⟨some 77, .ci .i64 (.t 76), none⟩,
  ⟨some 78, .bin .add [] (.t 71) (.t 77), none⟩,
  ⟨some 13, .mv (.t 78), none⟩])
 (.skip))))))
 (.reg [⟨some 79, .bin .add [] (.t 63) (.c (.int .i64 1)), none⟩,
  ⟨some 63, .mv (.t 79), none⟩])))))))
 (.seq (.reg [⟨some 80, .mf 26 [(.t 12), (.t 7)], none⟩,
  ⟨some 16, .mv (.t 80), none⟩])
 (.seq (.regd [(0, ⟨some 81, .mv (.t 16), none⟩),
  (1, ⟨some 82, .ia (some 5) 1 (.t 14) (.c (.int .i64 0)), none⟩),
  (2, ⟨some 83, .ld none (.t 82), none⟩),
  (3, ⟨some 84, .fa 6 (.t 4), none⟩),
  (4, ⟨some 85, .ia (some 3) 1 (.t 84) (.c (.int .i64 0)), none⟩),
  (5, ⟨some 86, .ld none (.t 85), none⟩),
  (6, ⟨some 87, .calld (.t 81) [(.t 83), (.t 86)], none⟩),
  (7, ⟨some 88, .mv (.t 16), none⟩),
  (8, ⟨some 89, .ia (some 5) 1 (.t 14) (.c (.int .i64 3)), none⟩),
  (9, ⟨some 90, .ld none (.t 89), none⟩),
  (10, ⟨some 91, .fa 6 (.t 4), none⟩),
  (11, ⟨some 92, .ia (some 3) 1 (.t 91) (.c (.int .i64 1)), none⟩),
  (12, ⟨some 93, .ld none (.t 92), none⟩),
  (13, ⟨some 94, .calld (.t 88) [(.t 90), (.t 93)], none⟩),
  (14, ⟨some 17, .mv (.t 87), none⟩),
  (15, ⟨some 18, .mv (.t 94), none⟩)] [(9, 6), (12, 6)])
 (.seq (.seq (.reg [⟨some 95, .mv (.t 18), none⟩,
  ⟨some 96, .mv (.t 17), none⟩,
  ⟨some 97, .bin .lss [] (.t 95) (.t 96), none⟩])
 (.cond (.t 97)
 (.reg [⟨some 98, .mv (.t 17), none⟩,
  ⟨some 18, .mv (.t 98), none⟩])
 (.skip)))
 (.seq (.regd [(0, ⟨some 100, .mv (.t 10), none⟩),
  (1, ⟨some 101, .mv (.t 17), none⟩),
  (2, ⟨some 102, .mv (.t 18), none⟩),
  (3, ⟨some 103, .ia (some 5) 1 (.t 14) (.c (.int .i64 1)), none⟩),
  (4, ⟨some 104, .ld none (.t 103), none⟩),
  (5, ⟨some 105, .fa 9 (.t 4), none⟩),
  (6, ⟨some 106, .ia (some 2) 1 (.t 105) (.c (.int .i64 0)), none⟩),
  (7, ⟨some 107, .ld none (.t 106), none⟩),
  (8, ⟨some 108, .mv (.t 9), none⟩),
  (9, ⟨some 109, .call 25 [(.t 107), (.t 108)], none⟩),
  (10, ⟨some 110, .bin .add [] (.t 104) (.t 109), none⟩),
  (11, ⟨some 111, .ia (some 5) 1 (.t 14) (.c (.int .i64 2)), none⟩),
  (12, ⟨some 112, .ld none (.t 111), none⟩),
  (13, ⟨some 113, .fa 9 (.t 4), none⟩),
  (14, ⟨some 114, .ia (some 2) 1 (.t 113) (.c (.int .i64 1)), none⟩),
  (15, ⟨some 115, .ld none (.t 114), none⟩),
  (16, ⟨some 116, .mv (.t 9), none⟩),
  (17, ⟨some 117, .call 25 [(.t 115), (.t 116)], none⟩),
  (18, ⟨some 118, .bin .add [] (.t 112) (.t 117), none⟩),
  (19, ⟨some 119, .mv (.t 9), none⟩),
  (20, ⟨some 120, .call 18 [(.t 100), (.t 101), (.t 102), (.t 110), (.t 118), (.t 119)], none⟩),
  (21, ⟨some 99, .mv (.t 120), none⟩),
  (22, ⟨some 121, .ex 0 (.t 99), none⟩),
  (23, ⟨some 122, .ex 1 (.t 99), none⟩),
  (24, ⟨some 19, .al (.ints .i64 [0, 0, 0]), none⟩),
  (25, ⟨none, .st 3 (.t 19) (.t 121), none⟩),
  (26, ⟨some 20, .mv (.t 122), none⟩)] [(4, 9), (4, 17), (12, 9), (12, 17), (15, 9)])
 (.seq (.seq (.reg [⟨some 123, .mv (.t 20), none⟩,
  ⟨some 124, .bin .neq [] (.t 123) (.c (.int .i64 0)), none⟩,
  ⟨some 125, .mv (.t 124), none⟩,
  ⟨some 126, .ld (some 3) (.t 19), some (125, false)⟩,
  ⟨some 127, .call 28 [(.t 126)], some (125, false)⟩,
  ⟨some 128, .un .not (.t 127), some (125, false)⟩,
  ⟨some 129, .pick (.t 125) (.c (.bool true)) (.t 128), none⟩,
  ⟨some 130, .mv (.t 129), none⟩,
  ⟨some 131, .fa 0 (.t 19), some (130, false)⟩,
  ⟨some 132, .ld none (.t 131), some (130, false)⟩,
  ⟨some 133, .mv (.t 18), some (130, false)⟩,
  ⟨some 134, .bin .neq [] (.t 132) (.t 133), some (130, false)⟩,
  ⟨some 135, .pick (.t 130) (.c (.bool true)) (.t 134), none⟩,
  ⟨some 136, .mv (.t 135), none⟩,
  ⟨some 137, .ld (some 3) (.t 19), some (136, false)⟩,
  ⟨some 138, .ia (some 5) 1 (.t 14) (.c (.int .i64 3)), some (136, false)⟩,
  ⟨some 139, .ld none (.t 138), some (136, false)⟩,
  ⟨some 140, .call 29 [(.t 137), (.t 139)], some (136, false)⟩,
  ⟨some 141, .un .not (.t 140), some (136, false)⟩,
  ⟨some 142, .pick (.t 136) (.c (.bool true)) (.t 141), none⟩])
 (.cond (.t 142)
 (.seq (.reg [⟨some 6, .mv (.c (.bool false)), none⟩])
 (.ret))
 (.skip)))
 (.seq (.reg [⟨some 143, .mv (.t 16), none⟩,
  ⟨some 144, .ia (some 5) 1 (.t 14) (.c (.int .i64 4)), none⟩,
  ⟨some 145, .ld none (.t 144), none⟩,
  ⟨some 146, .fa 6 (.t 4), none⟩,
  ⟨some 147, .ia (some 3) 1 (.t 146) (.c (.int .i64 2)), none⟩,
  ⟨some 148, .ld none (.t 147), none⟩,
  ⟨some 149, .calld (.t 143) [(.t 145), (.t 148)], none⟩,
  ⟨some 150, .mv (.t 18), none⟩,
  ⟨some 151, .mnx true [(.t 149), (.t 150)], none⟩,
  ⟨some 21, .mv (.t 151), none⟩])
 (.seq (.reg [⟨some 153, .mv (.t 10), none⟩,
  ⟨some 154, .ld (some 3) (.t 19), none⟩,
  ⟨some 155, .mv (.t 21), none⟩,
  ⟨some 156, .call 30 [(.t 153), (.t 154), (.t 155)], none⟩,
  ⟨some 152, .mv (.t 156), none⟩,
  ⟨some 157, .ex 0 (.t 152), none⟩,
  ⟨some 158, .ex 1 (.t 152), none⟩,
  ⟨some 22, .al (.ints .i64 [0, 0, 0]), none⟩,
  ⟨none, .st 3 (.t 22) (.t 157), none⟩,
  ⟨some 23, .mv (.t 158), none⟩])
 (.seq (.seq (.regd [(0, ⟨some 159, .mv (.t 23), none⟩),
  (1, ⟨some 160, .bin .neq [] (.t 159) (.c (.int .i64 0)), none⟩),
  (2, ⟨some 161, .mv (.t 160), none⟩),
  (3, ⟨some 162, .ld (some 3) (.t 22), some (161, false)⟩),
  (4, ⟨some 163, .ia (some 5) 1 (.t 14) (.c (.int .i64 4)), some (161, false)⟩),
  (5, ⟨some 164, .ld none (.t 163), some (161, false)⟩),
  (6, ⟨some 165, .call 29 [(.t 162), (.t 164)], some (161, false)⟩),
  (7, ⟨some 166, .un .not (.t 165), some (161, false)⟩),
  (8, ⟨some 167, .pick (.t 161) (.c (.bool true)) (.t 166), none⟩),
  (9, ⟨some 168, .mv (.t 167), none⟩),
  (10, ⟨some 169, .ld (some 3) (.t 22), some (168, false)⟩),
  (11, ⟨some 170, .call 24 [(.t 169)], some (168, false)⟩),
  (12, ⟨some 171, .ld (some 3) (.t 19), some (168, false)⟩),
  (13, ⟨some 172, .call 24 [(.t 171)], some (168, false)⟩),
  (14, ⟨some 173, .bin .lss [] (.t 170) (.t 172), some (168, false)⟩),
  (15, ⟨some 174, .pick (.t 168) (.c (.bool true)) (.t 173), none⟩)] [(12, 11)])
 (.cond (.t 174)
 (.seq (.reg [⟨some 6, .mv (.c (.bool false)), none⟩])
 (.ret))
 (.skip)))
 (.seq (.reg [⟨some 175, .mv (.t 18), none⟩,
  ⟨some 176, .mv (.t 21), none⟩,
  ⟨some 177, .mv (.t 18), none⟩,
  ⟨some 178, .bin .sub [] (.t 176) (.t 177), none⟩,
  ⟨some 179, .bin .quo [] (.t 178) (.c (.int .i64 256)), none⟩,
  ⟨some 180, .mv (.t 2), none⟩,
  ⟨some 181, .ci .i64 (.t 180), none⟩,
  ⟨some 182, .bin .mul [] (.t 179) (.t 181), none⟩,
  ⟨some 183, .bin .add [] (.t 175) (.t 182), none⟩,
  ⟨some 24, .mv (.t 183), none⟩])
 (.seq (.reg [⟨some 185, .mv (.t 10), none⟩,
  ⟨some 186, .ld (some 3) (.t 19), none⟩,
  ⟨some 187, .mv (.t 24), none⟩,
  ⟨some 188, .call 30 [(.t 185), (.t 186), (.t 187)], none⟩,
  ⟨some 184, .mv (.t 188), none⟩,
  ⟨some 189, .ex 0 (.t 184), none⟩,
  ⟨some 190, .ex 1 (.t 184), none⟩,
  ⟨some 25, .al (.ints .i64 [0, 0, 0]), none⟩,
  ⟨none, .st 3 (.t 25) (.t 189), none⟩,
  ⟨some 26, .mv (.t 190), none⟩])
 (.seq (.reg [⟨some 192, .mv (.t 10), none⟩,
  ⟨some 193, .ld (some 3) (.t 25), none⟩,
  ⟨some 194, .mv (.t 21), none⟩,
  ⟨some 195, .call 30 [(.t 192), (.t 193), (.t 194)], none⟩,
  ⟨some 191, .mv (.t 195), none⟩,
  ⟨some 196, .ex 0 (.t 191), none⟩,
  ⟨some 197, .ex 1 (.t 191), none⟩,
  ⟨some 27, .al (.ints .i64 [0, 0, 0]), none⟩,
  ⟨none, .st 3 (.t 27) (.t 196), none⟩,
  ⟨some 28, .mv (.t 197), none⟩])
 (.seq (.reg [⟨some 198, .mv (.t 26), none⟩,
  ⟨some 199, .bin .eql [] (.t 198) (.c (.int .i64 0)), none⟩,
  ⟨some 200, .mv (.t 199), none⟩,
  ⟨some 201, .mv (.t 28), some (200, true)⟩,
  ⟨some 202, .bin .eql [] (.t 201) (.c (.int .i64 0)), some (200, true)⟩,
  ⟨some 203, .pick (.t 200) (.t 202) (.c (.bool false)), none⟩,
  ⟨some 204, .mv (.t 203), none⟩,
  ⟨some 205, .fa 1 (.t 27), some (204, true)⟩,
  ⟨some 206, .ld none (.t 205), some (204, true)⟩,
  ⟨some 207, .fa 1 (.t 22), some (204, true)⟩,
  ⟨some 208, .ld none (.t 207), some (204, true)⟩,
  ⟨some 209, .bin .leq [] (.t 206) (.t 208), some (204, true)⟩,
  ⟨some 210, .pick (.t 204) (.t 209) (.c (.bool false)), none⟩,
  ⟨some 211, .mv (.t 210), none⟩,
  ⟨some 212, .fa 2 (.t 27), some (211, true)⟩,
  ⟨some 213, .ld none (.t 212), some (211, true)⟩,
  ⟨some 214, .fa 2 (.t 22), some (211, true)⟩,
  ⟨some 215, .ld none (.t 214), some (211, true)⟩,
  ⟨some 216, .bin .geq [] (.t 213) (.t 215), some (211, true)⟩,
  ⟨some 217, .pick (.t 211) (.t 216) (.c (.bool false)), none⟩,
  ⟨some 218, .mv (.t 217), none⟩,
  ⟨some 219, .ld (some 3) (.t 27), some (218, true)⟩,
  ⟨some 220, .ia (some 5) 1 (.t 14) (.c (.int .i64 4)), some (218, true)⟩,
  ⟨some 221, .ld none (.t 220), some (218, true)⟩,
  ⟨some 222, .call 29 [(.t 219), (.t 221)], some (218, true)⟩,
  ⟨some 223, .pick (.t 218) (.t 222) (.c (.bool false)), none⟩,
  ⟨some 6, .mv (.t 223), none⟩])
 (.ret)))))))))))))))))))),
 [.tmp 6], true⟩
/-- ephemeris/ephemerislaw19.SpanKnown -/
def M7 : MFunc := ⟨.seq (.reg [⟨some 0, .mv (.c (.bool false)), none⟩])
 (.seq (.reg [⟨some 31, .call 15 [(.c (.int .i64 0)), (.c (.int .i64 0))], none⟩,
  ⟨some 30, .mv (.t 31), none⟩,
  ⟨some 32, .ex 0 (.t 30), none⟩,
  ⟨some 33, .ex 1 (.t 30), none⟩,
  ⟨some 1, .mv (.t 32), none⟩,
  ⟨some 2, .mv (.t 33), none⟩])
 (.seq (.reg [⟨some 35, .call 15 [(.c (.int .i64 1000000001)), (.c (.int .i64 0))], none⟩,
  ⟨some 34, .mv (.t 35), none⟩,
  ⟨some 36, .ex 0 (.t 34), none⟩,
  ⟨some 37, .ex 1 (.t 34), none⟩,
  ⟨some 3, .mv (.t 36), none⟩,
  ⟨some 4, .mv (.t 37), none⟩])
 (.seq (.reg [⟨some 39, .call 15 [(.c (.int .i64 1)), (.c (.int .i64 (-1)))], none⟩,
  ⟨some 38, .mv (.t 39), none⟩,
  ⟨some 40, .ex 0 (.t 38), none⟩,
  ⟨some 41, .ex 1 (.t 38), none⟩,
  ⟨some 5, .mv (.t 40), none⟩,
  ⟨some 6, .mv (.t 41), none⟩])
 (.seq (.reg [⟨some 43, .call 15 [(.c (.int .i64 1)), (.c (.int .i64 500001))], none⟩,
  ⟨some 42, .mv (.t 43), none⟩,
  ⟨some 44, .ex 0 (.t 42), none⟩,
  ⟨some 45, .ex 1 (.t 42), none⟩,
  ⟨some 7, .mv (.t 44), none⟩,
  ⟨some 8, .mv (.t 45), none⟩])
 (.seq (.reg [⟨some 47, .call 15 [(.c (.int .i64 1)), (.c (.int .i64 0))], none⟩,
  ⟨some 46, .mv (.t 47), none⟩,
  ⟨some 48, .ex 0 (.t 46), none⟩,
  ⟨some 49, .ex 1 (.t 46), none⟩,
  ⟨some 9, .mv (.t 48), none⟩,
  ⟨some 10, .mv (.t 49), none⟩])
 (.seq (.seq (.reg [⟨some 50, .mv (.t 10), none⟩,
  ⟨some 51, .bin .neq [] (.t 50) (.c (.int .i64 0)), none⟩])
 (.cond (.t 51)
 (.seq (.reg [⟨some 0, .mv (.c (.bool false)), none⟩])
 (.ret))
 (.skip)))
 (.seq (.reg [⟨some 53, .mv (.t 9), none⟩,
  ⟨some 54, .call 18 [(.t 53), (.c (.int .i64 5)), (.c (.int .i64 4)), (.c (.int .i64 0)), (.c (.int .i64 0)), (.c (.int .i64 0))], none⟩,
  ⟨some 52, .mv (.t 54), none⟩,
  ⟨some 55, .ex 0 (.t 52), none⟩,
  ⟨some 56, .ex 1 (.t 52), none⟩,
  ⟨some 11, .al (.ints .i64 [0, 0, 0]), none⟩,
  ⟨none, .st 3 (.t 11) (.t 55), none⟩,
  ⟨some 12, .mv (.t 56), none⟩])
 (.seq (.reg [⟨some 58, .mv (.t 9), none⟩,
  ⟨some 59, .call 18 [(.t 58), (.c (.int .i64 0)), (.c (.int .i64 0)), (.c (.int .i64 (-1))), (.c (.int .i64 0)), (.c (.int .i64 0))], none⟩,
  ⟨some 57, .mv (.t 59), none⟩,
  ⟨some 60, .ex 0 (.t 57), none⟩,
  ⟨some 61, .ex 1 (.t 57), none⟩,
  ⟨some 13, .al (.ints .i64 [0, 0, 0]), none⟩,
  ⟨none, .st 3 (.t 13) (.t 60), none⟩,
  ⟨some 14, .mv (.t 61), none⟩])
 (.seq (.reg [⟨some 63, .mv (.t 9), none⟩,
  ⟨some 64, .call 18 [(.t 63), (.c (.int .i64 0)), (.c (.int .i64 0)), (.c (.int .i64 0)), (.c (.int .i64 0)), (.c (.int .i64 4611686018427387905))], none⟩,
  ⟨some 62, .mv (.t 64), none⟩,
  ⟨some 65, .ex 0 (.t 62), none⟩,
  ⟨some 66, .ex 1 (.t 62), none⟩,
  ⟨some 15, .al (.ints .i64 [0, 0, 0]), none⟩,
  ⟨none, .st 3 (.t 15) (.t 65), none⟩,
  ⟨some 16, .mv (.t 66), none⟩])
 (.seq (.reg [⟨some 68, .mv (.t 9), none⟩,
  ⟨some 69, .call 18 [(.t 68), (.c (.int .i64 0)), (.c (.int .i64 0)), (.c (.int .i64 4611686018427387904)), (.c (.int .i64 4611686018427387904)), (.c (.int .i64 4611686018427387904))], none⟩,
  ⟨some 67, .mv (.t 69), none⟩,
  ⟨some 70, .ex 0 (.t 67), none⟩,
  ⟨some 71, .ex 1 (.t 67), none⟩,
  ⟨some 17, .al (.ints .i64 [0, 0, 0]), none⟩,
  ⟨none, .st 3 (.t 17) (.t 70), none⟩,
  ⟨some 18, .mv (.t 71), none⟩])
 (.seq (.reg [⟨some 73, .mv (.t 9), none⟩,
  ⟨some 74, .bld [(.int .i64 0), (.int .i64 0), (.int .i64 0)] [(0, 1, (.c (.int .i64 5))), (1, 1, (.c (.int .i64 1))), (2, 1, (.c (.int .i64 2)))], none⟩,
  ⟨some 75, .call 30 [(.t 73), (.t 74), (.c (.int .i64 4))], none⟩,
  ⟨some 72, .mv (.t 75), none⟩,
  ⟨some 76, .ex 0 (.t 72), none⟩,
  ⟨some 77, .ex 1 (.t 72), none⟩,
  ⟨some 19, .al (.ints .i64 [0, 0, 0]), none⟩,
  ⟨none, .st 3 (.t 19) (.t 76), none⟩,
  ⟨some 20, .mv (.t 77), none⟩])
 (.seq (.reg [⟨some 79, .mv (.t 9), none⟩,
  ⟨some 80, .bld [(.int .i64 0), (.int .i64 0), (.int .i64 0)] [(1, 1, (.c (.int .i64 2))), (2, 1, (.c (.int .i64 1)))], none⟩,
  ⟨some 81, .call 30 [(.t 79), (.t 80), (.c (.int .i64 4))], none⟩,
  ⟨some 78, .mv (.t 81), none⟩,
  ⟨some 82, .ex 0 (.t 78), none⟩,
  ⟨some 83, .ex 1 (.t 78), none⟩,
  ⟨some 21, .al (.ints .i64 [0, 0, 0]), none⟩,
  ⟨none, .st 3 (.t 21) (.t 82), none⟩,
  ⟨some 22, .mv (.t 83), none⟩])
 (.seq (.reg [⟨some 85, .mv (.t 9), none⟩,
  ⟨some 86, .bld [(.int .i64 0), (.int .i64 0), (.int .i64 0)] [(1, 1, (.c (.int .i64 1))), (2, 1, (.c (.int .i64 2)))], none⟩,
  ⟨some 87, .call 30 [(.t 85), (.t 86), (.c (.int .i64 0))], none⟩,
  ⟨some 84, .mv (.t 87), none⟩,
  ⟨some 88, .ex 0 (.t 84), none⟩,
  ⟨some 89, .ex 1 (.t 84), none⟩,
  ⟨some 23, .al (.ints .i64 [0, 0, 0]), none⟩,
  ⟨none, .st 3 (.t 23) (.t 88), none⟩,
  ⟨some 24, .mv (.t 89), none⟩])
 (.seq (.reg [⟨some 25, .mv (.c .nilp), none⟩])
 (.seq (.reg [⟨some 91, .mv (.t 25), none⟩,
  ⟨some 92, .bld [(.int .i64 0), (.int .i64 0), (.int .i64 0)] [], none⟩,
  ⟨some 93, .call 30 [(.t 91), (.t 92), (.c (.int .i64 0))], none⟩,
  ⟨some 90, .mv (.t 93), none⟩,
  ⟨some 94, .ex 0 (.t 90), none⟩,
  ⟨some 95, .ex 1 (.t 90), none⟩,
  ⟨some 26, .al (.ints .i64 [0, 0, 0]), none⟩,
  ⟨none, .st 3 (.t 26) (.t 94), none⟩,
  ⟨some 27, .mv (.t 95), none⟩])
 (.seq (.reg [⟨some 97, .mv (.t 25), none⟩,
  ⟨some 98, .call 18 [(.t 97), (.c (.int .i64 0)), (.c (.int .i64 0)), (.c (.int .i64 0)), (.c (.int .i64 0)), (.c (.int .i64 0))], none⟩,
  ⟨some 96, .mv (.t 98), none⟩,
  ⟨some 99, .ex 0 (.t 96), none⟩,
  ⟨some 100, .ex 1 (.t 96), none⟩,
  ⟨some 28, .al (.ints .i64 [0, 0, 0]), none⟩,
  ⟨none, .st 3 (.t 28) (.t 99), none⟩,
  ⟨some 29, .mv (.t 100), none⟩])
 (.seq (.reg [⟨some 101, .mv (.c (.bool true)), none⟩,
  ⟨some 102, .call 17 [], some (101, true)⟩,
  ⟨some 103, .pick (.t 101) (.t 102) (.c (.bool false)), none⟩,
  ⟨some 104, .mv (.t 103), none⟩,
  ⟨some 105, .mv (.t 2), some (104, true)⟩,
  ⟨some 106, .bin .eql [] (.t 105) (.c (.int .i64 1)), some (104, true)⟩,
  ⟨some 107, .pick (.t 104) (.t 106) (.c (.bool false)), none⟩,
  ⟨some 108, .mv (.t 107), none⟩,
  ⟨some 109, .mv (.t 4), some (108, true)⟩,
  ⟨some 110, .bin .eql [] (.t 109) (.c (.int .i64 1)), some (108, true)⟩,
  ⟨some 111, .pick (.t 108) (.t 110) (.c (.bool false)), none⟩,
  ⟨some 112, .mv (.t 111), none⟩,
  ⟨some 113, .mv (.t 6), some (112, true)⟩,
  ⟨some 114, .bin .eql [] (.t 113) (.c (.int .i64 1)), some (112, true)⟩,
  ⟨some 115, .pick (.t 112) (.t 114) (.c (.bool false)), none⟩,
  ⟨some 116, .mv (.t 115), none⟩,
  ⟨some 117, .mv (.t 8), some (116, true)⟩,
  ⟨some 118, .bin .eql [] (.t 117) (.c (.int .i64 1)), some (116, true)⟩,
  ⟨some 119, .pick (.t 116) (.t 118) (.c (.bool false)), none⟩,
  ⟨some 120, .mv (.t 119), none⟩,
  ⟨some 121, .mv (.t 12), some (120, true)⟩,
  ⟨some 122, .bin .eql [] (.t 121) (.c (.int .i64 1)), some (120, true)⟩,
  ⟨some 123, .pick (.t 120) (.t 122) (.c (.bool false)), none⟩,
  ⟨some 124, .mv (.t 123), none⟩,
  ⟨some 125, .mv (.t 14), some (124, true)⟩,
  ⟨some 126, .bin .eql [] (.t 125) (.c (.int .i64 1)), some (124, true)⟩,
  ⟨some 127, .pick (.t 124) (.t 126) (.c (.bool false)), none⟩,
  ⟨some 128, .mv (.t 127), none⟩,
  ⟨some 129, .mv (.t 16), some (128, true)⟩,
  ⟨some 130, .bin .eql [] (.t 129) (.c (.int .i64 1)), some (128, true)⟩,
  ⟨some 131, .pick (.t 128) (.t 130) (.c (.bool false)), none⟩,
  ⟨some 132, .mv (.t 131), none⟩,
  ⟨some 133, .mv (.t 18), some (132, true)⟩,
  ⟨some 134, .bin .eql [] (.t 133) (.c (.int .i64 0)), some (132, true)⟩,
  ⟨some 135, .pick (.t 132) (.t 134) (.c (.bool false)), none⟩,
  ⟨some 136, .mv (.t 135), none⟩,
  ⟨some 137, .ld (some 3) (.t 17), some (136, true)⟩,
  ⟨some 138, .bld [(.int .i64 0), (.int .i64 0), (.int .i64 0)] [(2, 1, (.c (.int .i64 4611686018427387904)))], some (136, true)⟩,
  ⟨some 139, .bin .eql [5, 0, 0, 0] (.t 137) (.t 138), some (136, true)⟩,
  ⟨some 140, .pick (.t 136) (.t 139) (.c (.bool false)), none⟩,
  ⟨some 141, .mv (.t 140), none⟩,
  ⟨some 142, .mv (.t 20), some (141, true)⟩,
  ⟨some 143, .bin .eql [] (.t 142) (.c (.int .i64 1)), some (141, true)⟩,
  ⟨some 144, .pick (.t 141) (.t 143) (.c (.bool false)), none⟩,
  ⟨some 145, .mv (.t 144), none⟩,
  ⟨some 146, .mv (.t 22), some (145, true)⟩,
  ⟨some 147, .bin .eql [] (.t 146) (.c (.int .i64 1)), some (145, true)⟩,
  ⟨some 148, .pick (.t 145) (.t 147) (.c (.bool false)), none⟩,
  ⟨some 149, .mv (.t 148), none⟩,
  ⟨some 150, .mv (.t 24), some (149, true)⟩,
  ⟨some 151, .bin .eql [] (.t 150) (.c (.int .i64 0)), some (149, true)⟩,
  ⟨some 152, .pick (.t 149) (.t 151) (.c (.bool false)), none⟩,
  ⟨some 153, .mv (.t 152), none⟩,
  ⟨some 154, .ld (some 3) (.t 23), some (153, true)⟩,
  ⟨some 155, .bld [(.int .i64 0), (.int .i64 0), (.int .i64 0)] [(1, 1, (.c (.int .i64 1))), (2, 1, (.c (.int .i64 4)))], some (153, true)⟩,
  ⟨some 156, .bin .eql [5, 0, 0, 0] (.t 154) (.t 155), some (153, true)⟩,
  ⟨some 157, .pick (.t 153) (.t 156) (.c (.bool false)), none⟩,
  ⟨some 158, .mv (.t 157), none⟩,
  ⟨some 159, .mv (.t 9), some (158, true)⟩,
  ⟨some 160, .call 19 [(.t 159), (.c (.int .i64 0))], some (158, true)⟩,
  ⟨some 161, .bin .eql [] (.t 160) (.c (.int .i64 2)), some (158, true)⟩,
  ⟨some 162, .pick (.t 158) (.t 161) (.c (.bool false)), none⟩,
  ⟨some 163, .mv (.t 162), none⟩,
  ⟨some 164, .mv (.t 9), some (163, true)⟩,
  ⟨some 165, .call 20 [(.t 164), (.c (.int .i64 1))], some (163, true)⟩,
  ⟨some 166, .bin .eql [] (.t 165) (.c (.int .i64 0)), some (163, true)⟩,
  ⟨some 167, .pick (.t 163) (.t 166) (.c (.bool false)), none⟩,
  ⟨some 168, .mv (.t 167), none⟩,
  ⟨some 169, .mv (.t 9), some (168, true)⟩,
  ⟨some 170, .call 20 [(.t 169), (.c (.int .i64 3))], some (168, true)⟩,
  ⟨some 171, .bin .eql [] (.t 170) (.c (.int .i64 1)), some (168, true)⟩,
  ⟨some 172, .pick (.t 168) (.t 171) (.c (.bool false)), none⟩,
  ⟨some 173, .mv (.t 172), none⟩,
  ⟨some 174, .mv (.t 27), some (173, true)⟩,
  ⟨some 175, .bin .eql [] (.t 174) (.c (.int .i64 2)), some (173, true)⟩,
  ⟨some 176, .pick (.t 173) (.t 175) (.c (.bool false)), none⟩,
  ⟨some 177, .mv (.t 176), none⟩,
  ⟨some 178, .mv (.t 29), some (177, true)⟩,
  ⟨some 179, .bin .eql [] (.t 178) (.c (.int .i64 2)), some (177, true)⟩,
  ⟨some 180, .pick (.t 177) (.t 179) (.c (.bool false)), none⟩,
  ⟨some 181, .mv (.t 180), none⟩,
  ⟨some 182, .mv (.t 25), some (181, true)⟩,
  ⟨some 183, .call 19 [(.t 182), (.c (.int .i64 9))], some (181, true)⟩,
  ⟨some 184, .bin .eql [] (.t 183) (.c (.int .i64 0)), some (181, true)⟩,
  ⟨some 185, .pick (.t 181) (.t 184) (.c (.bool false)), none⟩,
  ⟨some 186, .mv (.t 185), none⟩,
  ⟨some 187, .mv (.t 25), some (186, true)⟩,
  ⟨some 188, .call 20 [(.t 187), (.c (.int .i64 9))], some (186, true)⟩,
  ⟨some 189, .bin .eql [] (.t 188) (.c (.int .i64 0)), some (186, true)⟩,
  ⟨some 190, .pick (.t 186) (.t 189) (.c (.bool false)), none⟩,
  ⟨some 191, .mv (.t 190), none⟩,
  ⟨some 192, .bld [(.int .i64 0), (.int .i64 0), (.int .i64 0)] [(0, 1, (.c (.int .i64 (-1))))], some (191, true)⟩,
  ⟨some 193, .call 28 [(.t 192)], some (191, true)⟩,
  ⟨some 194, .un .not (.t 193), some (191, true)⟩,
  ⟨some 195, .pick (.t 191) (.t 194) (.c (.bool false)), none⟩,
  ⟨some 196, .mv (.t 195), none⟩,
  ⟨some 197, .bld [(.int .i64 0), (.int .i64 0), (.int .i64 0)] [], some (196, true)⟩,
  ⟨some 198, .call 28 [(.t 197)], some (196, true)⟩,
  ⟨some 199, .pick (.t 196) (.t 198) (.c (.bool false)), none⟩,
  ⟨some 200, .mv (.t 199), none⟩,
  ⟨some 201, .bld [(.int .i64 0), (.int .i64 0), (.int .i64 0)] [(1, 1, (.c (.int .i64 2))), (2, 1, (.c (.int .i64 1)))], some (200, true)⟩,
  ⟨some 202, .call 31 [(.t 201)], some (200, true)⟩,
  ⟨some 203, .bin .eql [] (.t 202) (.c (.int .i64 0)), some (200, true)⟩,
  ⟨some 204, .pick (.t 200) (.t 203) (.c (.bool false)), none⟩,
  ⟨some 205, .mv (.t 204), none⟩,
  ⟨some 206, .bld [(.int .i64 0), (.int .i64 0), (.int .i64 0)] [(1, 1, (.c (.int .i64 1))), (2, 1, (.c (.int .i64 4)))], some (205, true)⟩,
  ⟨some 207, .call 31 [(.t 206)], some (205, true)⟩,
  ⟨some 208, .bin .eql [] (.t 207) (.c (.int .i64 2)), some (205, true)⟩,
  ⟨some 209, .pick (.t 205) (.t 208) (.c (.bool false)), none⟩,
  ⟨some 0, .mv (.t 209), none⟩])
 (.ret)))))))))))))))))),
 [.tmp 0], true⟩
/-- ephemeris/ephemerislaw19.SpanMeets -/
def M8 : MFunc := ⟨.seq (.reg [⟨some 3, .bx (some .u64) 2 (.t 0), none⟩,
  ⟨some 4, .bx (some .u64) 2 (.t 1), none⟩,
  ⟨some 6, .mv (.c (.bool false)), none⟩])
 (.seq (.reg [⟨some 7, .mv (.f 32), none⟩])
 (.seq (.regd [(0, ⟨some 22, .mv (.t 7), none⟩),
  (1, ⟨some 23, .ld (some 2) (.t 3), none⟩),
  (2, ⟨some 24, .calld (.t 22) [(.t 23)], none⟩),
  (3, ⟨some 25, .mv (.t 7), none⟩),
  (4, ⟨some 26, .ld (some 2) (.t 4), none⟩),
  (5, ⟨some 27, .calld (.t 25) [(.t 26)], none⟩),
  (6, ⟨some 8, .al (.ints .i64 [0, 0, 0]), none⟩),
  (7, ⟨some 9, .al (.ints .i64 [0, 0, 0]), none⟩),
  (8, ⟨none, .st 3 (.t 8) (.t 24), none⟩),
  (9, ⟨none, .st 3 (.t 9) (.t 27), none⟩)] [(4, 2)])
 (.seq (.reg [⟨some 29, .ld (some 3) (.t 8), none⟩,
  ⟨some 30, .ld (some 3) (.t 9), none⟩,
  ⟨some 31, .call 33 [(.t 29), (.t 30)], none⟩,
  ⟨some 28, .mv (.t 31), none⟩,
  ⟨some 32, .ex 0 (.t 28), none⟩,
  ⟨some 33, .ex 1 (.t 28), none⟩,
  ⟨some 10, .al (.ints .i64 [0, 0, 0]), none⟩,
  ⟨none, .st 3 (.t 10) (.t 32), none⟩,
  ⟨some 11, .mv (.t 33), none⟩])
 (.seq (.reg [⟨some 35, .ld (some 3) (.t 9), none⟩,
  ⟨some 36, .ld (some 3) (.t 8), none⟩,
  ⟨some 37, .call 33 [(.t 35), (.t 36)], none⟩,
  ⟨some 34, .mv (.t 37), none⟩,
  ⟨some 38, .ex 0 (.t 34), none⟩,
  ⟨some 39, .ex 1 (.t 34), none⟩,
  ⟨some 12, .al (.ints .i64 [0, 0, 0]), none⟩,
  ⟨none, .st 3 (.t 12) (.t 38), none⟩,
  ⟨some 13, .mv (.t 39), none⟩])
 (.seq (.reg [⟨some 41, .ld (some 3) (.t 8), none⟩,
  ⟨some 42, .ld (some 3) (.t 8), none⟩,
  ⟨some 43, .call 33 [(.t 41), (.t 42)], none⟩,
  ⟨some 40, .mv (.t 43), none⟩,
  ⟨some 44, .ex 0 (.t 40), none⟩,
  ⟨some 45, .ex 1 (.t 40), none⟩,
  ⟨some 14, .al (.ints .i64 [0, 0, 0]), none⟩,
  ⟨none, .st 3 (.t 14) (.t 44), none⟩,
  ⟨some 15, .mv (.t 45), none⟩])
 (.seq (.seq (.reg [⟨some 46, .ld (some 3) (.t 10), none⟩,
  ⟨some 47, .ld (some 3) (.t 12), none⟩,
  ⟨some 48, .bin .neq [5, 0, 0, 0] (.t 46) (.t 47), none⟩,
  ⟨some 49, .mv (.t 48), none⟩,
  ⟨some 50, .mv (.t 11), some (49, false)⟩,
  ⟨some 51, .mv (.t 13), some (49, false)⟩,
  ⟨some 52, .bin .neq [1] (.t 50) (.t 51), some (49, false)⟩,
  ⟨some 53, .pick (.t 49) (.c (.bool true)) (.t 52), none⟩,
  ⟨some 54, .mv (.t 53), none⟩,
  ⟨some 55, .ld (some 3) (.t 14), some (54, false)⟩,
  ⟨some 56, .ld (some 3) (.t 8), some (54, false)⟩,
  ⟨some 57, .bin .neq [5, 0, 0, 0] (.t 55) (.t 56), some (54, false)⟩,
  ⟨some 58, .pick (.t 54) (.c (.bool true)) (.t 57), none⟩,
  ⟨some 59, .mv (.t 58), none⟩,
  ⟨some 60, .mv (.t 15), some (59, false)⟩,
  ⟨some 61, .un .not (.t 60), some (59, false)⟩,
  ⟨some 62, .pick (.t 59) (.c (.bool true)) (.t 61), none⟩,
  ⟨some 63, .mv (.t 62), none⟩,
  ⟨some 64, .mv (.t 11), some (63, false)⟩,
  ⟨some 65, .fa 1 (.t 8), some (63, false)⟩,
  ⟨some 66, .ld none (.t 65), some (63, false)⟩,
  ⟨some 67, .fa 1 (.t 9), some (63, false)⟩,
  ⟨some 68, .ld none (.t 67), some (63, false)⟩,
  ⟨some 69, .mnx true [(.t 66), (.t 68)], some (63, false)⟩,
  ⟨some 70, .fa 2 (.t 8), some (63, false)⟩,
  ⟨some 71, .ld none (.t 70), some (63, false)⟩,
  ⟨some 72, .fa 2 (.t 9), some (63, false)⟩,
  ⟨some 73, .ld none (.t 72), some (63, false)⟩,
  ⟨some 74, .mnx false [(.t 71), (.t 73)], some (63, false)⟩,
  ⟨some 75, .bin .leq [] (.t 69) (.t 74), some (63, false)⟩,
  ⟨some 76, .bin .neq [1] (.t 64) (.t 75), some (63, false)⟩,
  ⟨some 77, .pick (.t 63) (.c (.bool true)) (.t 76), none⟩])
 (.cond (.t 77)
 (.seq (.reg [⟨some 6, .mv (.c (.bool false)), none⟩])
 (.ret))
 (.skip)))
 (.seq (.seq (.regd [(0, ⟨some 78, .mv (.t 2), none⟩),
  (1, ⟨some 79, .bin .rem [] (.t 78) (.c (.int .u64 2305843009213693952)), none⟩),
  (2, ⟨some 80, .ci .i64 (.t 79), none⟩),
  (3, ⟨some 81, .fa 1 (.t 8), none⟩),
  (4, ⟨some 82, .ld none (.t 81), none⟩),
  (5, ⟨some 83, .fa 2 (.t 8), none⟩),
  (6, ⟨some 84, .ld none (.t 83), none⟩),
  (7, ⟨some 85, .fa 1 (.t 9), none⟩),
  (8, ⟨some 86, .ld none (.t 85), none⟩),
  (9, ⟨some 87, .fa 2 (.t 9), none⟩),
  (10, ⟨some 88, .ld none (.t 87), none⟩),
  (11, ⟨some 89, .ld (some 3) (.t 8), none⟩),
  (12, ⟨some 90, .call 31 [(.t 89)], none⟩),
  (13, ⟨some 91, .ld (some 3) (.t 9), none⟩),
  (14, ⟨some 92, .call 31 [(.t 91)], none⟩),
  (17, ⟨some 95, .mv (.c (.int .i64 0)), none⟩),
  (15, ⟨some 93, .bsl (.ints .i64 [0]) 7 1 [(0, 1, (.t 80)), (1, 1, (.t 82)), (2, 1, (.t 84)), (3, 1, (.t 86)), (4, 1, (.t 88)), (5, 1, (.t 90)), (6, 1, (.t 92))], none⟩),
  (16, ⟨some 94, .len none (.t 93), none⟩)] [(4, 12), (4, 14), (6, 12), (6, 14), (8, 12), (8, 14), (10, 12), (10, 14), (13, 12)])
 (.block 0 [8, 9, 10, 11]
 (.loop [8, 9, 10, 11, 93, 94, 95]
 (.seq (.reg [⟨some 96, .bin .lss [] (.t 95) (.t 94), none⟩])
 (.seq (.cond (.t 96)
 (.skip)
 (.exit 0))
 (.seq (.block 1 [8, 9, 10, 11, 93, 94, 95]
 (.seq (.reg [⟨some 97, .ia none 1 (.t 93) (.t 95), none⟩,
  ⟨some 98, .ld none (.t 97), none⟩,
  ⟨some 17, .mv (.t 98), none⟩])
 (.seq (.reg [⟨some 99, .ld (some 3) (.t 8), none⟩,
  ⟨some 100, .mv (.t 17), none⟩,
  ⟨some 101, .call 29 [(.t 99), (.t 100)], none⟩,
  ⟨some 102, .mv (.t 101), none⟩,
  ⟨some 103, .ld (some 3) (.t 9), some (102, true)⟩,
  ⟨some 104, .mv (.t 17), some (102, true)⟩,
  ⟨some 105, .call 29 [(.t 103), (.t 104)], some (102, true)⟩,
  ⟨some 106, .pick (.t 102) (.t 105) (.c (.bool false)), none⟩,
  ⟨some 18, .mv (.t 106), none⟩])
 (.seq (.reg [⟨some 107, .mv (.t 18), none⟩,
  ⟨some 108, .mv (.t 11), none⟩,
  ⟨some 109, .mv (.t 108), none⟩,
  ⟨some 110, .ld (some 3) (.t 10), some (109, true)⟩,
  ⟨some 111, .mv (.t 17), some (109, true)⟩,
  ⟨some 112, .call 29 [(.t 110), (.t 111)], some (109, true)⟩,
  ⟨some 113, .pick (.t 109) (.t 112) (.c (.bool false)), none⟩,
  ⟨some 114, .bin .neq [1] (.t 107) (.t 113), none⟩])
 (.cond (.t 114)
 (.seq (.reg [⟨some 6, .mv (.c (.bool false)), none⟩])
 (.ret))
 (.skip))))))
 (.reg [⟨some 115, .bin .add [] (.t 95) (.c (.int .i64 1)), none⟩,
  ⟨some 95, .mv (.t 115), none⟩])))))))
 (.seq (.reg [⟨some 116, .ld (some 3) (.t 9), none⟩,
  ⟨some 19, .al (.ints .i64 [0, 0, 0]), none⟩,
  ⟨none, .st 3 (.t 19) (.t 116), none⟩])
 (.seq (.reg [⟨some 117, .fa 0 (.t 19), none⟩,
  ⟨some 118, .ld none (.t 117), none⟩,
  ⟨some 119, .bin .add [] (.t 118) (.c (.int .i64 1)), none⟩,
  ⟨some 120, .fa 0 (.t 19), none⟩,
  ⟨none, .st 1 (.t 120) (.t 119), none⟩])
 (.seq (.reg [⟨some 122, .ld (some 3) (.t 8), none⟩,
  ⟨some 123, .ld (some 3) (.t 19), none⟩,
  ⟨some 124, .call 33 [(.t 122), (.t 123)], none⟩,
  ⟨some 121, .mv (.t 124), none⟩,
  ⟨some 125, .ex 0 (.t 121), none⟩,
  ⟨some 126, .ex 1 (.t 121), none⟩,
  ⟨some 20, .al (.ints .i64 [0, 0, 0]), none⟩,
  ⟨none, .st 3 (.t 20) (.t 125), none⟩,
  ⟨some 21, .mv (.t 126), none⟩])
 (.seq (.regd [(0, ⟨some 127, .call 17 [], none⟩),
  (1, ⟨some 128, .mv (.t 127), none⟩),
  (2, ⟨some 129, .mv (.t 21), some (128, true)⟩),
  (3, ⟨some 130, .un .not (.t 129), some (128, true)⟩),
  (4, ⟨some 131, .pick (.t 128) (.t 130) (.c (.bool false)), none⟩),
  (5, ⟨some 132, .mv (.t 131), none⟩),
  (6, ⟨some 133, .ld (some 3) (.t 8), some (132, true)⟩),
  (7, ⟨some 134, .ld (some 3) (.t 8), some (132, true)⟩),
  (8, ⟨some 135, .call 31 [(.t 134)], some (132, true)⟩),
  (9, ⟨some 136, .call 29 [(.t 133), (.t 135)], some (132, true)⟩),
  (10, ⟨some 137, .pick (.t 132) (.t 136) (.c (.bool false)), none⟩),
  (11, ⟨some 138, .mv (.t 137), none⟩),
  (12, ⟨some 139, .mv (.t 11), some (138, true)⟩),
  (13, ⟨some 140, .un .not (.t 139), some (138, true)⟩),
  (14, ⟨some 141, .mv (.t 140), some (138, true)⟩),
  (15, ⟨some 142, .ld (some 3) (.t 10), some (141, false)⟩),
  (16, ⟨some 143, .call 24 [(.t 142)], some (141, false)⟩),
  (17, ⟨some 144, .ld (some 3) (.t 8), some (141, false)⟩),
  (18, ⟨some 145, .call 24 [(.t 144)], some (141, false)⟩),
  (19, ⟨some 146, .ld (some 3) (.t 9), some (141, false)⟩),
  (20, ⟨some 147, .call 24 [(.t 146)], some (141, false)⟩),
  (21, ⟨some 148, .mnx false [(.t 145), (.t 147)], some (141, false)⟩),
  (22, ⟨some 149, .bin .leq [] (.t 143) (.t 148), some (141, false)⟩),
  (23, ⟨some 150, .pick (.t 141) (.c (.bool true)) (.t 149), some (138, true)⟩),
  (24, ⟨some 151, .pick (.t 138) (.t 150) (.c (.bool false)), none⟩),
  (25, ⟨some 6, .mv (.t 151), none⟩)] [(6, 8), (17, 16), (19, 16), (19, 18)])
 (.ret)))))))))))),
 [.tmp 6], true⟩
/-- ephemeris/ephemerislaw24.CombineTells -/
def M9 : MFunc := ⟨.seq (.reg [⟨some 3, .bx (some .i64) 3 (.t 1), none⟩,
  ⟨some 4, .mv (.c (.bool false)), none⟩])
 (.seq (.reg [⟨some 16, .mv (.t 0), none⟩,
  ⟨some 17, .mv (.t 0), none⟩,
  ⟨some 18, .len none (.t 17), none⟩,
  ⟨some 19, .mnx false [(.t 18), (.c (.int .i64 20))], none⟩,
  ⟨some 20, .slc none 3 (.t 16) none (some (.t 19)) none, none⟩,
  ⟨some 0, .mv (.t 20), none⟩])
 (.seq (.reg [⟨some 21, .mv (.t 0), none⟩,
  ⟨some 22, .app (.ints .i64 [0, 0, 0]) 24 (.c .nils) (.t 21), none⟩,
  ⟨some 5, .mv (.t 22), none⟩])
 (.seq (.reg [⟨some 24, .mv (.t 5), none⟩,
  ⟨some 25, .ld (some 3) (.t 3), none⟩,
  ⟨some 26, .call 34 [(.t 24), (.t 25)], none⟩,
  ⟨some 23, .mv (.t 26), none⟩,
  ⟨some 27, .ex 0 (.t 23), none⟩,
  ⟨some 28, .ex 1 (.t 23), none⟩,
  ⟨some 29, .ex 2 (.t 23), none⟩,
  ⟨some 6, .mv (.t 27), none⟩,
  ⟨some 7, .mv (.t 28), none⟩,
  ⟨some 8, .mv (.t 29), none⟩])
 (.seq (.reg [⟨some 31, .mv (.t 0), none⟩,
  ⟨some 32, .ld (some 3) (.t 3), none⟩,
  ⟨some 33, .call 35 [(.t 31), (.t 32)], none⟩,
  ⟨some 30, .mv (.t 33), none⟩,
  ⟨some 34, .ex 0 (.t 30), none⟩,
  ⟨some 35, .ex 1 (.t 30), none⟩,
  ⟨some 36, .ex 2 (.t 30), none⟩,
  ⟨some 9, .mv (.t 34), none⟩,
  ⟨some 10, .mv (.t 35), none⟩,
  ⟨some 11, .mv (.t 36), none⟩])
 (.seq (.reg [⟨some 37, .mv (.t 5), none⟩,
  ⟨some 38, .call 36 [(.t 37)], none⟩,
  ⟨some 39, .mv (.t 0), none⟩,
  ⟨some 40, .call 37 [(.t 39)], none⟩,
  ⟨some 12, .mv (.t 38), none⟩,
  ⟨some 13, .mv (.t 40), none⟩])
 (.seq (.seq (.reg [⟨some 41, .mv (.t 6), none⟩,
  ⟨some 42, .mv (.t 9), none⟩,
  ⟨some 43, .bin .neq [] (.t 41) (.t 42), none⟩,
  ⟨some 44, .mv (.t 43), none⟩,
  ⟨some 45, .mv (.t 7), some (44, false)⟩,
  ⟨some 46, .mv (.t 10), some (44, false)⟩,
  ⟨some 47, .bin .neq [] (.t 45) (.t 46), some (44, false)⟩,
  ⟨some 48, .pick (.t 44) (.c (.bool true)) (.t 47), none⟩,
  ⟨some 49, .mv (.t 48), none⟩,
  ⟨some 50, .mv (.t 8), some (49, false)⟩,
  ⟨some 51, .mv (.t 11), some (49, false)⟩,
  ⟨some 52, .bin .neq [] (.t 50) (.t 51), some (49, false)⟩,
  ⟨some 53, .pick (.t 49) (.c (.bool true)) (.t 52), none⟩,
  ⟨some 54, .mv (.t 53), none⟩,
  ⟨some 55, .mv (.t 12), some (54, false)⟩,
  ⟨some 56, .len none (.t 55), some (54, false)⟩,
  ⟨some 57, .mv (.t 13), some (54, false)⟩,
  ⟨some 58, .len none (.t 57), some (54, false)⟩,
  ⟨some 59, .bin .neq [] (.t 56) (.t 58), some (54, false)⟩,
  ⟨some 60, .pick (.t 54) (.c (.bool true)) (.t 59), none⟩])
 (.cond (.t 60)
 (.seq (.reg [⟨some 4, .mv (.c (.bool false)), none⟩])
 (.ret))
 (.skip)))
 (.seq (.seq (.reg [⟨some 14, .mv (.c (.int .i64 0)), none⟩])
 (.block 0 [0, 5]
 (.loop [0, 5, 12, 13, 14]
 (.seq (.seq (.reg [⟨some 61, .mv (.t 14), none⟩,
  ⟨some 62, .mv (.t 12), none⟩,
  ⟨some 63, .len none (.t 62), none⟩,
  ⟨some 64, .bin .lss [] (.t 61) (.t 63), none⟩])
 (.cond (.t 64)
 (.skip)
 (.exit 0)))
 (.seq (.block 1 [0, 5, 12, 13, 14]
 (.seq (.regd [(0, ⟨some 67, .mv (.t 12), none⟩),
  (1, ⟨some 68, .mv (.t 14), none⟩),
  (2, ⟨some 69, .ia none 1 (.t 67) (.t 68), none⟩),
  (3, ⟨some 70, .ld none (.t 69), none⟩),
  (4, ⟨some 71, .mv (.t 13), none⟩),
  (5, ⟨some 72, .mv (.t 14), none⟩),
  (6, ⟨some 73, .ia none 1 (.t 71) (.t 72), none⟩),
  (7, ⟨some 74, .ld none (.t 73), none⟩),
  (8, ⟨some 75, .bin .neq [] (.t 70) (.t 74), none⟩)] [])
 (.cond (.t 75)
 (.seq (.reg [⟨some 4, .mv (.c (.bool false)), none⟩])
 (.ret))
 (.skip))))
 (.reg [⟨some 65, .mv (.t 14), none⟩,
  ⟨some 66, .bin .add [] (.t 65) (.c (.int .i64 1)), none⟩,
  ⟨some 14, .mv (.t 66), none⟩]))))))
 (.seq (.seq (.reg [⟨some 15, .mv (.c (.int .i64 0)), none⟩])
 (.block 2 []
 (.loop [0, 5, 15]
 (.seq (.seq (.reg [⟨some 76, .mv (.t 15), none⟩,
  ⟨some 77, .mv (.t 0), none⟩,
  ⟨some 78, .len none (.t 77), none⟩,
  ⟨some 79, .bin .lss [] (.t 76) (.t 78), none⟩])
 (.cond (.t 79)
 (.skip)
 (.exit 2)))
 (.seq (.block 3 [0, 5, 15]
 (.seq (.regd [(0, ⟨some 82, .mv (.t 5), none⟩),
  (1, ⟨some 83, .mv (.t 15), none⟩),
  (2, ⟨some 84, .ia none 3 (.t 82) (.t 83), none⟩),
  (3, ⟨some 85, .ld (some 3) (.t 84), none⟩),
  (4, ⟨some 86, .mv (.t 0), none⟩),
  (5, ⟨some 87, .mv (.t 15), none⟩),
  (6, ⟨some 88, .ia none 3 (.t 86) (.t 87), none⟩),
  (7, ⟨some 89, .ld (some 3) (.t 88), none⟩),
  (8, ⟨some 90, .bin .neq [5, 0, 0, 0] (.t 85) (.t 89), none⟩)] [])
 (.cond (.t 90)
 (.seq (.reg [⟨some 4, .mv (.c (.bool false)), none⟩])
 (.ret))
 (.skip))))
 (.reg [⟨some 80, .mv (.t 15), none⟩,
  ⟨some 81, .bin .add [] (.t 80) (.c (.int .i64 1)), none⟩,
  ⟨some 15, .mv (.t 81), none⟩]))))))
 (.seq (.reg [⟨some 91, .call 38 [], none⟩,
  ⟨some 4, .mv (.t 91), none⟩])
 (.ret)))))))))),
 [.tmp 4], true⟩
/-- ephemeris/ephemerislaw24.CombineMean -/
def M10 : MFunc := ⟨.seq (.reg [⟨some 3, .bx (some .i64) 3 (.t 1), none⟩,
  ⟨some 4, .mv (.c (.bool false)), none⟩])
 (.seq (.reg [⟨some 14, .mv (.t 0), none⟩,
  ⟨some 15, .call 39 [(.t 14)], none⟩,
  ⟨some 0, .mv (.t 15), none⟩])
 (.seq (.reg [⟨some 16, .ld (some 3) (.t 3), none⟩,
  ⟨some 17, .bsl (.ints .i64 [0, 0, 0]) 1 3 [(0, 3, (.t 16))], none⟩,
  ⟨some 18, .call 39 [(.t 17)], none⟩,
  ⟨some 19, .ia none 3 (.t 18) (.c (.int .i64 0)), none⟩,
  ⟨some 20, .ld (some 3) (.t 19), none⟩,
  ⟨none, .st 3 (.t 3) (.t 20), none⟩])
 (.seq (.reg [⟨some 22, .mv (.t 0), none⟩,
  ⟨some 23, .ld (some 3) (.t 3), none⟩,
  ⟨some 24, .call 34 [(.t 22), (.t 23)], none⟩,
  ⟨some 21, .mv (.t 24), none⟩,
  ⟨some 25, .ex 0 (.t 21), none⟩,
  ⟨some 26, .ex 1 (.t 21), none⟩,
  ⟨some 27, .ex 2 (.t 21), none⟩,
  ⟨some 5, .mv (.t 25), none⟩,
  ⟨some 6, .mv (.t 26), none⟩,
  ⟨some 7, .mv (.t 27), none⟩])
 (.seq (.seq (.reg [⟨some 28, .mv (.t 0), none⟩,
  ⟨some 29, .len none (.t 28), none⟩,
  ⟨some 30, .bin .eql [] (.t 29) (.c (.int .i64 0)), none⟩])
 (.cond (.t 30)
 (.seq (.reg [⟨some 31, .mv (.t 7), none⟩,
  ⟨some 32, .bin .eql [] (.t 31) (.c (.int .i64 33)), none⟩,
  ⟨some 33, .mv (.t 32), none⟩,
  ⟨some 34, .call 38 [], some (33, true)⟩,
  ⟨some 35, .pick (.t 33) (.t 34) (.c (.bool false)), none⟩,
  ⟨some 4, .mv (.t 35), none⟩])
 (.ret))
 (.skip)))
 (.seq (.regd [(0, ⟨some 36, .fa 2 (.t 3), none⟩),
  (1, ⟨some 37, .ld none (.t 36), none⟩),
  (2, ⟨some 38, .fa 1 (.t 3), none⟩),
  (3, ⟨some 39, .ld none (.t 38), none⟩),
  (4, ⟨some 8, .mv (.t 37), none⟩),
  (5, ⟨some 9, .mv (.t 39), none⟩)] [])
 (.seq (.seq (.reg [⟨some 10, .mv (.c (.int .i64 0)), none⟩])
 (.block 0 [0, 3, 5, 6, 7, 8, 9]
 (.loop [0, 3, 5, 6, 7, 8, 9, 10]
 (.seq (.seq (.reg [⟨some 40, .mv (.t 10), none⟩,
  ⟨some 41, .mv (.t 0), none⟩,
  ⟨some 42, .len none (.t 41), none⟩,
  ⟨some 43, .bin .lss [] (.t 40) (.t 42), none⟩])
 (.cond (.t 43)
 (.skip)
 (.exit 0)))
 (.seq (.block 1 [0, 3, 5, 6, 7, 8, 9, 10]
 (.seq (.regd [(0, ⟨some 46, .mv (.t 0), none⟩),
  (1, ⟨some 47, .mv (.t 10), none⟩),
  (2, ⟨some 48, .ia none 3 (.t 46) (.t 47), none⟩),
  (3, ⟨some 49, .ld (some 3) (.t 48), none⟩),
  (4, ⟨some 50, .call 31 [(.t 49)], none⟩),
  (5, ⟨some 51, .fa 1 (.t 3), none⟩),
  (6, ⟨some 52, .ld none (.t 51), none⟩),
  (7, ⟨some 53, .mnx true [(.t 50), (.t 52)], none⟩),
  (8, ⟨some 54, .fa 2 (.t 3), none⟩),
  (9, ⟨some 55, .ld none (.t 54), none⟩),
  (10, ⟨some 56, .mnx false [(.t 53), (.t 55)], none⟩),
  (11, ⟨some 11, .mv (.t 56), none⟩)] [(6, 4), (9, 4)])
 (.reg [⟨some 57, .mv (.t 8), none⟩,
  ⟨some 58, .mv (.t 11), none⟩,
  ⟨some 59, .mnx false [(.t 57), (.t 58)], none⟩,
  ⟨some 60, .mv (.t 9), none⟩,
  ⟨some 61, .mv (.t 11), none⟩,
  ⟨some 62, .mnx true [(.t 60), (.t 61)], none⟩,
  ⟨some 8, .mv (.t 59), none⟩,
  ⟨some 9, .mv (.t 62), none⟩])))
 (.reg [⟨some 44, .mv (.t 10), none⟩,
  ⟨some 45, .bin .add [] (.t 44) (.c (.int .i64 1)), none⟩,
  ⟨some 10, .mv (.t 45), none⟩]))))))
 (.seq (.reg [⟨some 63, .mv (.t 0), none⟩,
  ⟨some 64, .len none (.t 63), none⟩,
  ⟨some 12, .mv (.t 64), none⟩])
 (.seq (.reg [⟨some 65, .mv (.t 9), none⟩,
  ⟨some 66, .mv (.t 5), none⟩,
  ⟨some 67, .bin .sub [] (.t 65) (.t 66), none⟩,
  ⟨some 68, .mv (.t 5), none⟩,
  ⟨some 69, .mv (.t 8), none⟩,
  ⟨some 70, .bin .sub [] (.t 68) (.t 69), none⟩,
  ⟨some 71, .mnx true [(.t 67), (.t 70)], none⟩,
  ⟨some 13, .mv (.t 71), none⟩])
 (.seq (.reg [⟨some 72, .mv (.t 7), none⟩,
  ⟨some 73, .bin .eql [] (.t 72) (.c (.int .i64 0)), none⟩,
  ⟨some 74, .mv (.t 73), none⟩,
  ⟨some 75, .mv (.t 5), some (74, true)⟩,
  ⟨some 76, .fa 1 (.t 3), some (74, true)⟩,
  ⟨some 77, .ld none (.t 76), some (74, true)⟩,
  ⟨some 78, .bin .geq [] (.t 75) (.t 77), some (74, true)⟩,
  ⟨some 79, .pick (.t 74) (.t 78) (.c (.bool false)), none⟩,
  ⟨some 80, .mv (.t 79), none⟩,
  ⟨some 81, .mv (.t 5), some (80, true)⟩,
  ⟨some 82, .fa 2 (.t 3), some (80, true)⟩,
  ⟨some 83, .ld none (.t 82), some (80, true)⟩,
  ⟨some 84, .bin .leq [] (.t 81) (.t 83), some (80, true)⟩,
  ⟨some 85, .pick (.t 80) (.t 84) (.c (.bool false)), none⟩,
  ⟨some 86, .mv (.t 85), none⟩,
  ⟨some 87, .mv (.t 5), some (86, true)⟩,
  ⟨some 88, .mv (.t 9), some (86, true)⟩,
  ⟨some 89, .bin .leq [] (.t 87) (.t 88), some (86, true)⟩,
  ⟨some 90, .pick (.t 86) (.t 89) (.c (.bool false)), none⟩,
  ⟨some 91, .mv (.t 90), none⟩,
  ⟨some 92, .mv (.t 5), some (91, true)⟩,
  ⟨some 93, .mv (.t 8), some (91, true)⟩,
  ⟨some 94, .mv (.t 12), some (91, true)⟩,
  ⟨some 95, .bin .sub [] (.t 93) (.t 94), some (91, true)⟩,
  ⟨some 96, .bin .gtr [] (.t 92) (.t 95), some (91, true)⟩,
  ⟨some 97, .pick (.t 91) (.t 96) (.c (.bool false)), none⟩,
  ⟨some 98, .mv (.t 97), none⟩,
  ⟨some 99, .mv (.t 6), some (98, true)⟩,
  ⟨some 100, .bin .geq [] (.t 99) (.c (.int .i64 0)), some (98, true)⟩,
  ⟨some 101, .pick (.t 98) (.t 100) (.c (.bool false)), none⟩,
  ⟨some 102, .mv (.t 101), none⟩,
  ⟨some 103, .mv (.t 6), some (102, true)⟩,
  ⟨some 104, .mv (.t 13), some (102, true)⟩,
  ⟨some 105, .mv (.t 12), some (102, true)⟩,
  ⟨some 106, .bin .add [] (.t 104) (.t 105), some (102, true)⟩,
  ⟨some 107, .bin .leq [] (.t 103) (.t 106), some (102, true)⟩,
  ⟨some 108, .pick (.t 102) (.t 107) (.c (.bool false)), none⟩,
  ⟨some 109, .mv (.t 108), none⟩,
  ⟨some 110, .mv (.t 6), some (109, true)⟩,
  ⟨some 111, .fa 2 (.t 3), some (109, true)⟩,
  ⟨some 112, .ld none (.t 111), some (109, true)⟩,
  ⟨some 113, .fa 1 (.t 3), some (109, true)⟩,
  ⟨some 114, .ld none (.t 113), some (109, true)⟩,
  ⟨some 115, .bin .sub [] (.t 112) (.t 114), some (109, true)⟩,
  ⟨some 116, .mv (.t 12), some (109, true)⟩,
  ⟨some 117, .bin .add [] (.t 115) (.t 116), some (109, true)⟩,
  ⟨some 118, .bin .leq [] (.t 110) (.t 117), some (109, true)⟩,
  ⟨some 119, .pick (.t 109) (.t 118) (.c (.bool false)), none⟩,
  ⟨some 120, .mv (.t 119), none⟩,
  ⟨some 121, .mv (.t 12), some (120, true)⟩,
  ⟨some 122, .bin .gtr [] (.t 121) (.c (.int .i64 1)), some (120, true)⟩,
  ⟨some 123, .mv (.t 122), some (120, true)⟩,
  ⟨some 124, .mv (.t 5), some (123, false)⟩,
  ⟨some 125, .mv (.t 8), some (123, false)⟩,
  ⟨some 126, .bin .eql [] (.t 124) (.t 125), some (123, false)⟩,
  ⟨some 127, .mv (.t 126), some (123, false)⟩,
  ⟨some 128, .mv (.t 6), some (127, true)⟩,
  ⟨some 129, .bin .eql [] (.t 128) (.c (.int .i64 0)), some (127, true)⟩,
  ⟨some 130, .pick (.t 127) (.t 129) (.c (.bool false)), some (123, false)⟩,
  ⟨some 131, .pick (.t 123) (.c (.bool true)) (.t 130), some (120, true)⟩,
  ⟨some 132, .pick (.t 120) (.t 131) (.c (.bool false)), none⟩,
  ⟨some 133, .mv (.t 132), none⟩,
  ⟨some 134, .call 38 [], some (133, true)⟩,
  ⟨some 135, .pick (.t 133) (.t 134) (.c (.bool false)), none⟩,
  ⟨some 4, .mv (.t 135), none⟩])
 (.ret)))))))))),
 [.tmp 4], true⟩
/-- ephemeris/ephemerislaw24.CombineMoves -/
def M11 : MFunc := ⟨.seq (.reg [⟨some 5, .bx (some .i64) 3 (.t 1), none⟩,
  ⟨some 8, .mv (.c (.bool false)), none⟩])
 (.seq (.reg [⟨some 29, .mv (.t 0), none⟩,
  ⟨some 30, .call 39 [(.t 29)], none⟩,
  ⟨some 0, .mv (.t 30), none⟩])
 (.seq (.reg [⟨some 31, .ld (some 3) (.t 5), none⟩,
  ⟨some 32, .bsl (.ints .i64 [0, 0, 0]) 1 3 [(0, 3, (.t 31))], none⟩,
  ⟨some 33, .call 39 [(.t 32)], none⟩,
  ⟨some 34, .ia none 3 (.t 33) (.c (.int .i64 0)), none⟩,
  ⟨some 35, .ld (some 3) (.t 34), none⟩,
  ⟨none, .st 3 (.t 5) (.t 35), none⟩])
 (.seq (.seq (.reg [⟨some 36, .mv (.t 0), none⟩,
  ⟨some 37, .len none (.t 36), none⟩,
  ⟨some 38, .bin .eql [] (.t 37) (.c (.int .i64 0)), none⟩])
 (.cond (.t 38)
 (.seq (.reg [⟨some 39, .call 38 [], none⟩,
  ⟨some 8, .mv (.t 39), none⟩])
 (.ret))
 (.skip)))
 (.seq (.reg [⟨some 40, .mv (.t 3), none⟩,
  ⟨some 41, .ci .i64 (.t 40), none⟩,
  ⟨some 42, .mv (.t 0), none⟩,
  ⟨some 43, .len none (.t 42), none⟩,
  ⟨some 44, .bin .rem [] (.t 41) (.t 43), none⟩,
  ⟨some 9, .mv (.t 44), none⟩])
 (.seq (.reg [⟨some 45, .mv (.t 2), none⟩,
  ⟨some 46, .bin .rem [] (.t 45) (.c (.int .u64 1152921504606846976)), none⟩,
  ⟨some 47, .ci .i64 (.t 46), none⟩,
  ⟨some 10, .mv (.t 47), none⟩])
 (.seq (.reg [⟨some 11, .mv (.c .nils), none⟩])
 (.seq (.seq (.reg [⟨some 12, .mv (.c (.int .i64 0)), none⟩])
 (.block 0 [0, 5, 9, 10, 11]
 (.loop [0, 5, 9, 10, 11, 12]
 (.seq (.seq (.reg [⟨some 48, .mv (.t 12), none⟩,
  ⟨some 49, .mv (.t 0), none⟩,
  ⟨some 50, .len none (.t 49), none⟩,
  ⟨some 51, .bin .lss [] (.t 48) (.t 50), none⟩])
 (.cond (.t 51)
 (.skip)
 (.exit 0)))
 (.seq (.block 1 [0, 5, 9, 10, 11, 12]
 (.seq (.reg [⟨some 54, .mv (.t 0), none⟩,
  ⟨some 55, .mv (.t 9), none⟩,
  ⟨some 56, .mv (.t 12), none⟩,
  ⟨some 57, .bin .add [] (.t 55) (.t 56), none⟩,
  ⟨some 58, .mv (.t 0), none⟩,
  ⟨some 59, .len none (.t 58), none⟩,
  ⟨some 60, .bin .rem [] (.t 57) (.t 59), none⟩,
  ⟨some 61, .ia none 3 (.t 54) (.t 60), none⟩,
  ⟨some 62, .ld (some 3) (.t 61), none⟩,
  ⟨some 13, .al (.ints .i64 [0, 0, 0]), none⟩,
  ⟨none, .st 3 (.t 13) (.t 62), none⟩])
 (.reg [⟨some 63, .mv (.t 11), none⟩,
  ⟨some 64, .mv (.t 12), none⟩,
  ⟨some 65, .fa 1 (.t 13), none⟩,
  ⟨some 66, .ld none (.t 65), none⟩,
  ⟨some 67, .mv (.t 10), none⟩,
  ⟨some 68, .bin .add [] (.t 66) (.t 67), none⟩,
  ⟨some 69, .fa 2 (.t 13), none⟩,
  ⟨some 70, .ld none (.t 69), none⟩,
  ⟨some 71, .mv (.t 10), none⟩,
  ⟨some 72, .bin .add [] (.t 70) (.t 71), none⟩,
  ⟨some 73, .bld [(.int .i64 0), (.int .i64 0), (.int .i64 0)] [(0, 1, (.t 64)), (1, 1, (.t 68)), (2, 1, (.t 72))], none⟩,
  ⟨some 74, .bsl (.ints .i64 [0, 0, 0]) 1 3 [(0, 3, (.t 73))], none⟩,
  ⟨some 75, .app (.ints .i64 [0, 0, 0]) 24 (.t 63) (.t 74), none⟩,
  ⟨some 11, .mv (.t 75), none⟩])))
 (.reg [⟨some 52, .mv (.t 12), none⟩,
  ⟨some 53, .bin .add [] (.t 52) (.c (.int .i64 1)), none⟩,
  ⟨some 12, .mv (.t 53), none⟩]))))))
 (.seq (.reg [⟨some 77, .mv (.t 0), none⟩,
  ⟨some 78, .ld (some 3) (.t 5), none⟩,
  ⟨some 79, .call 34 [(.t 77), (.t 78)], none⟩,
  ⟨some 76, .mv (.t 79), none⟩,
  ⟨some 80, .ex 0 (.t 76), none⟩,
  ⟨some 81, .ex 1 (.t 76), none⟩,
  ⟨some 82, .ex 2 (.t 76), none⟩,
  ⟨some 14, .mv (.t 80), none⟩,
  ⟨some 15, .mv (.t 81), none⟩,
  ⟨some 16, .mv (.t 82), none⟩])
 (.seq (.reg [⟨some 84, .mv (.t 11), none⟩,
  ⟨some 85, .fa 1 (.t 5), none⟩,
  ⟨some 86, .ld none (.t 85), none⟩,
  ⟨some 87, .mv (.t 10), none⟩,
  ⟨some 88, .bin .add [] (.t 86) (.t 87), none⟩,
  ⟨some 89, .fa 2 (.t 5), none⟩,
  ⟨some 90, .ld none (.t 89), none⟩,
  ⟨some 91, .mv (.t 10), none⟩,
  ⟨some 92, .bin .add [] (.t 90) (.t 91), none⟩,
  ⟨some 93, .bld [(.int .i64 0), (.int .i64 0), (.int .i64 0)] [(1, 1, (.t 88)), (2, 1, (.t 92))], none⟩,
  ⟨some 94, .call 34 [(.t 84), (.t 93)], none⟩,
  ⟨some 83, .mv (.t 94), none⟩,
  ⟨some 95, .ex 0 (.t 83), none⟩,
  ⟨some 96, .ex 1 (.t 83), none⟩,
  ⟨some 97, .ex 2 (.t 83), none⟩,
  ⟨some 17, .mv (.t 95), none⟩,
  ⟨some 18, .mv (.t 96), none⟩,
  ⟨some 19, .mv (.t 97), none⟩])
 (.seq (.reg [⟨some 98, .mv (.t 0), none⟩,
  ⟨some 99, .call 36 [(.t 98)], none⟩,
  ⟨some 100, .mv (.t 11), none⟩,
  ⟨some 101, .call 36 [(.t 100)], none⟩,
  ⟨some 20, .mv (.t 99), none⟩,
  ⟨some 21, .mv (.t 101), none⟩])
 (.seq (.seq (.reg [⟨some 102, .mv (.t 16), none⟩,
  ⟨some 103, .bin .neq [] (.t 102) (.c (.int .i64 0)), none⟩,
  ⟨some 104, .mv (.t 103), none⟩,
  ⟨some 105, .mv (.t 19), some (104, false)⟩,
  ⟨some 106, .bin .neq [] (.t 105) (.c (.int .i64 0)), some (104, false)⟩,
  ⟨some 107, .pick (.t 104) (.c (.bool true)) (.t 106), none⟩,
  ⟨some 108, .mv (.t 107), none⟩,
  ⟨some 109, .mv (.t 17), some (108, false)⟩,
  ⟨some 110, .mv (.t 14), some (108, false)⟩,
  ⟨some 111, .mv (.t 10), some (108, false)⟩,
  ⟨some 112, .bin .add [] (.t 110) (.t 111), some (108, false)⟩,
  ⟨some 113, .bin .neq [] (.t 109) (.t 112), some (108, false)⟩,
  ⟨some 114, .pick (.t 108) (.c (.bool true)) (.t 113), none⟩,
  ⟨some 115, .mv (.t 114), none⟩,
  ⟨some 116, .mv (.t 18), some (115, false)⟩,
  ⟨some 117, .mv (.t 15), some (115, false)⟩,
  ⟨some 118, .bin .neq [] (.t 116) (.t 117), some (115, false)⟩,
  ⟨some 119, .pick (.t 115) (.c (.bool true)) (.t 118), none⟩,
  ⟨some 120, .mv (.t 119), none⟩,
  ⟨some 121, .mv (.t 20), some (120, false)⟩,
  ⟨some 122, .len none (.t 121), some (120, false)⟩,
  ⟨some 123, .mv (.t 0), some (120, false)⟩,
  ⟨some 124, .len none (.t 123), some (120, false)⟩,
  ⟨some 125, .bin .neq [] (.t 122) (.t 124), some (120, false)⟩,
  ⟨some 126, .pick (.t 120) (.c (.bool true)) (.t 125), none⟩,
  ⟨some 127, .mv (.t 126), none⟩,
  ⟨some 128, .mv (.t 21), some (127, false)⟩,
  ⟨some 129, .len none (.t 128), some (127, false)⟩,
  ⟨some 130, .mv (.t 0), some (127, false)⟩,
  ⟨some 131, .len none (.t 130), some (127, false)⟩,
  ⟨some 132, .bin .neq [] (.t 129) (.t 131), some (127, false)⟩,
  ⟨some 133, .pick (.t 127) (.c (.bool true)) (.t 132), none⟩])
 (.cond (.t 133)
 (.seq (.reg [⟨some 8, .mv (.c (.bool false)), none⟩])
 (.ret))
 (.skip)))
 (.seq (.seq (.reg [⟨some 22, .mv (.c (.int .i64 0)), none⟩])
 (.block 2 [0, 5, 9]
 (.loop [0, 5, 9, 20, 21, 22]
 (.seq (.seq (.reg [⟨some 134, .mv (.t 22), none⟩,
  ⟨some 135, .mv (.t 0), none⟩,
  ⟨some 136, .len none (.t 135), none⟩,
  ⟨some 137, .bin .lss [] (.t 134) (.t 136), none⟩])
 (.cond (.t 137)
 (.skip)
 (.exit 2)))
 (.seq (.block 3 [0, 5, 9, 20, 21, 22]
 (.seq (.seq (.regd [(0, ⟨some 140, .mv (.t 21), none⟩),
  (1, ⟨some 141, .mv (.t 22), none⟩),
  (2, ⟨some 142, .ia none 1 (.t 140) (.t 141), none⟩),
  (3, ⟨some 143, .ld none (.t 142), none⟩),
  (4, ⟨some 144, .mv (.t 20), none⟩),
  (5, ⟨some 145, .mv (.t 9), none⟩),
  (6, ⟨some 146, .mv (.t 22), none⟩),
  (7, ⟨some 147, .bin .add [] (.t 145) (.t 146), none⟩),
  (8, ⟨some 148, .mv (.t 0), none⟩),
  (9, ⟨some 149, .len none (.t 148), none⟩),
  (10, ⟨some 150, .bin .rem [] (.t 147) (.t 149), none⟩),
  (11, ⟨some 151, .ia none 1 (.t 144) (.t 150), none⟩),
  (12, ⟨some 152, .ld none (.t 151), none⟩),
  (13, ⟨some 153, .bin .neq [] (.t 143) (.t 152), none⟩),
  (14, ⟨some 154, .mv (.t 153), none⟩),
  (15, ⟨some 155, .mv (.t 20), some (154, false)⟩),
  (16, ⟨some 156, .mv (.t 22), some (154, false)⟩),
  (17, ⟨some 157, .ia none 1 (.t 155) (.t 156), some (154, false)⟩),
  (18, ⟨some 158, .ld none (.t 157), some (154, false)⟩),
  (19, ⟨some 159, .bin .lss [] (.t 158) (.c (.int .i64 1024)), some (154, false)⟩),
  (20, ⟨some 160, .pick (.t 154) (.c (.bool true)) (.t 159), none⟩),
  (21, ⟨some 161, .mv (.t 160), none⟩),
  (22, ⟨some 162, .mv (.t 20), some (161, false)⟩),
  (23, ⟨some 163, .mv (.t 22), some (161, false)⟩),
  (24, ⟨some 164, .ia none 1 (.t 162) (.t 163), some (161, false)⟩),
  (25, ⟨some 165, .ld none (.t 164), some (161, false)⟩),
  (26, ⟨some 166, .bin .gtr [] (.t 165) (.c (.int .i64 1048576)), some (161, false)⟩),
  (27, ⟨some 167, .pick (.t 161) (.c (.bool true)) (.t 166), none⟩)] [])
 (.cond (.t 167)
 (.seq (.reg [⟨some 8, .mv (.c (.bool false)), none⟩])
 (.ret))
 (.skip)))
 (.seq (.regd [(0, ⟨some 168, .mv (.t 0), none⟩),
  (1, ⟨some 169, .mv (.t 22), none⟩),
  (2, ⟨some 170, .ia none 3 (.t 168) (.t 169), none⟩),
  (3, ⟨some 171, .ld (some 3) (.t 170), none⟩),
  (4, ⟨some 172, .call 24 [(.t 171)], none⟩),
  (5, ⟨some 173, .mv (.t 0), none⟩),
  (6, ⟨some 174, .mv (.t 9), none⟩),
  (7, ⟨some 175, .ia none 3 (.t 173) (.t 174), none⟩),
  (8, ⟨some 176, .ld (some 3) (.t 175), none⟩),
  (9, ⟨some 177, .call 24 [(.t 176)], none⟩),
  (10, ⟨some 178, .bin .geq [] (.t 172) (.t 177), none⟩),
  (11, ⟨some 179, .mv (.t 178), none⟩),
  (12, ⟨some 180, .mv (.t 20), some (179, true)⟩),
  (13, ⟨some 181, .mv (.t 22), some (179, true)⟩),
  (14, ⟨some 182, .ia none 1 (.t 180) (.t 181), some (179, true)⟩),
  (15, ⟨some 183, .ld none (.t 182), some (179, true)⟩),
  (16, ⟨some 184, .mv (.t 20), some (179, true)⟩),
  (17, ⟨some 185, .mv (.t 9), some (179, true)⟩),
  (18, ⟨some 186, .ia none 1 (.t 184) (.t 185), some (179, true)⟩),
  (19, ⟨some 187, .ld none (.t 186), some (179, true)⟩),
  (20, ⟨some 188, .bin .gtr [] (.t 183) (.t 187), some (179, true)⟩),
  (21, ⟨some 189, .pick (.t 179) (.t 188) (.c (.bool false)), none⟩)] [(8, 4)])
 (.cond (.t 189)
 (.seq (.reg [⟨some 8, .mv (.c (.bool false)), none⟩])
 (.ret))
 (.skip)))))
 (.reg [⟨some 138, .mv (.t 22), none⟩,
  ⟨some 139, .bin .add [] (.t 138) (.c (.int .i64 1)), none⟩,
  ⟨some 22, .mv (.t 139), none⟩]))))))
 (.seq (.regd [(0, ⟨some 191, .mv (.t 0), none⟩),
  (1, ⟨some 192, .mv (.t 9), none⟩),
  (2, ⟨some 193, .ia none 3 (.t 191) (.t 192), none⟩),
  (3, ⟨some 194, .ld (some 3) (.t 193), none⟩),
  (5, ⟨some 196, .ld (some 3) (.t 5), none⟩),
  (4, ⟨some 195, .bsl (.ints .i64 [0, 0, 0]) 1 3 [(0, 3, (.t 194))], none⟩),
  (6, ⟨some 197, .call 34 [(.t 195), (.t 196)], none⟩),
  (7, ⟨some 190, .mv (.t 197), none⟩),
  (8, ⟨some 198, .ex 0 (.t 190), none⟩),
  (9, ⟨some 199, .ex 1 (.t 190), none⟩),
  (10, ⟨some 200, .ex 2 (.t 190), none⟩),
  (11, ⟨some 23, .mv (.t 198), none⟩),
  (12, ⟨some 24, .mv (.t 199), none⟩),
  (13, ⟨some 25, .mv (.t 200), none⟩)] [])
 (.seq (.regd [(0, ⟨some 202, .mv (.t 0), none⟩),
  (1, ⟨some 203, .mv (.t 9), none⟩),
  (2, ⟨some 204, .ia none 3 (.t 202) (.t 203), none⟩),
  (3, ⟨some 205, .ld (some 3) (.t 204), none⟩),
  (4, ⟨some 206, .mv (.t 0), none⟩),
  (5, ⟨some 207, .mv (.t 9), none⟩),
  (6, ⟨some 208, .ia none 3 (.t 206) (.t 207), none⟩),
  (7, ⟨some 209, .ld (some 3) (.t 208), none⟩),
  (9, ⟨some 211, .ld (some 3) (.t 5), none⟩),
  (8, ⟨some 210, .bsl (.ints .i64 [0, 0, 0]) 2 3 [(0, 3, (.t 205)), (3, 3, (.t 209))], none⟩),
  (10, ⟨some 212, .call 34 [(.t 210), (.t 211)], none⟩),
  (11, ⟨some 201, .mv (.t 212), none⟩),
  (12, ⟨some 213, .ex 0 (.t 201), none⟩),
  (13, ⟨some 214, .ex 1 (.t 201), none⟩),
  (14, ⟨some 215, .ex 2 (.t 201), none⟩),
  (15, ⟨some 26, .mv (.t 213), none⟩),
  (16, ⟨some 27, .mv (.t 214), none⟩),
  (17, ⟨some 28, .mv (.t 215), none⟩)] [])
 (.seq (.reg [⟨some 216, .mv (.t 23), none⟩,
  ⟨some 217, .mv (.t 26), none⟩,
  ⟨some 218, .bin .sub [] (.t 216) (.t 217), none⟩,
  ⟨some 219, .bin .geq [] (.t 218) (.c (.int .i64 0)), none⟩,
  ⟨some 220, .mv (.t 219), none⟩,
  ⟨some 221, .mv (.t 23), some (220, true)⟩,
  ⟨some 222, .mv (.t 26), some (220, true)⟩,
  ⟨some 223, .bin .sub [] (.t 221) (.t 222), some (220, true)⟩,
  ⟨some 224, .bin .leq [] (.t 223) (.c (.int .i64 1)), some (220, true)⟩,
  ⟨some 225, .pick (.t 220) (.t 224) (.c (.bool false)), none⟩,
  ⟨some 226, .mv (.t 225), none⟩,
  ⟨some 227, .call 38 [], some (226, true)⟩,
  ⟨some 228, .pick (.t 226) (.t 227) (.c (.bool false)), none⟩,
  ⟨some 8, .mv (.t 228), none⟩])
 (.ret)))))))))))))))),
 [.tmp 8], true⟩
/-- ephemeris/ephemerislaw24.CombineNearer -/
def M12 : MFunc := ⟨.seq (.reg [⟨some 2, .bx (some .i64) 3 (.t 0), none⟩,
  ⟨some 3, .bx (some .i64) 3 (.t 1), none⟩,
  ⟨some 4, .mv (.c (.bool false)), none⟩])
 (.seq (.reg [⟨some 11, .ld (some 3) (.t 2), none⟩,
  ⟨some 12, .ld (some 3) (.t 3), none⟩,
  ⟨some 13, .bsl (.ints .i64 [0, 0, 0]) 2 3 [(0, 3, (.t 11)), (3, 3, (.t 12))], none⟩,
  ⟨some 14, .call 39 [(.t 13)], none⟩,
  ⟨some 5, .mv (.t 14), none⟩])
 (.seq (.seq (.regd [(0, ⟨some 15, .mv (.t 5), none⟩),
  (1, ⟨some 16, .ia none 3 (.t 15) (.c (.int .i64 0)), none⟩),
  (2, ⟨some 17, .ld (some 3) (.t 16), none⟩),
  (3, ⟨some 18, .call 24 [(.t 17)], none⟩),
  (4, ⟨some 19, .mv (.t 5), none⟩),
  (5, ⟨some 20, .ia none 3 (.t 19) (.c (.int .i64 1)), none⟩),
  (6, ⟨some 21, .ld (some 3) (.t 20), none⟩),
  (7, ⟨some 22, .call 24 [(.t 21)], none⟩),
  (8, ⟨some 23, .bin .gtr [] (.t 18) (.t 22), none⟩)] [(6, 3)])
 (.cond (.t 23)
 (.regd [(0, ⟨some 24, .mv (.t 5), none⟩),
  (1, ⟨some 25, .mv (.t 5), none⟩),
  (2, ⟨some 26, .mv (.t 5), none⟩),
  (3, ⟨some 27, .ia none 3 (.t 26) (.c (.int .i64 1)), none⟩),
  (4, ⟨some 28, .ld (some 3) (.t 27), none⟩),
  (5, ⟨some 29, .mv (.t 5), none⟩),
  (6, ⟨some 30, .ia none 3 (.t 29) (.c (.int .i64 0)), none⟩),
  (7, ⟨some 31, .ld (some 3) (.t 30), none⟩),
  (8, ⟨some 32, .ia none 3 (.t 24) (.c (.int .i64 0)), none⟩),
  (9, ⟨none, .st 3 (.t 32) (.t 28), none⟩),
  (10, ⟨some 33, .ia none 3 (.t 25) (.c (.int .i64 1)), none⟩),
  (11, ⟨none, .st 3 (.t 33) (.t 31), none⟩)] [])
 (.skip)))
 (.seq (.regd [(0, ⟨some 35, .mv (.t 5), none⟩),
  (1, ⟨some 36, .mv (.t 5), none⟩),
  (2, ⟨some 37, .ia none 3 (.t 36) (.c (.int .i64 0)), none⟩),
  (3, ⟨some 38, .fa 1 (.t 37), none⟩),
  (4, ⟨some 39, .ld none (.t 38), none⟩),
  (5, ⟨some 40, .mv (.t 5), none⟩),
  (6, ⟨some 41, .ia none 3 (.t 40) (.c (.int .i64 1)), none⟩),
  (7, ⟨some 42, .fa 1 (.t 41), none⟩),
  (8, ⟨some 43, .ld none (.t 42), none⟩),
  (9, ⟨some 44, .mnx false [(.t 39), (.t 43)], none⟩),
  (10, ⟨some 45, .mv (.t 5), none⟩),
  (11, ⟨some 46, .ia none 3 (.t 45) (.c (.int .i64 0)), none⟩),
  (12, ⟨some 47, .fa 2 (.t 46), none⟩),
  (13, ⟨some 48, .ld none (.t 47), none⟩),
  (14, ⟨some 49, .mv (.t 5), none⟩),
  (15, ⟨some 50, .ia none 3 (.t 49) (.c (.int .i64 1)), none⟩),
  (16, ⟨some 51, .fa 2 (.t 50), none⟩),
  (17, ⟨some 52, .ld none (.t 51), none⟩),
  (18, ⟨some 53, .mnx true [(.t 48), (.t 52)], none⟩),
  (19, ⟨some 54, .bld [(.int .i64 0), (.int .i64 0), (.int .i64 0)] [(1, 1, (.t 44)), (2, 1, (.t 53))], none⟩),
  (20, ⟨some 55, .call 34 [(.t 35), (.t 54)], none⟩),
  (21, ⟨some 34, .mv (.t 55), none⟩),
  (22, ⟨some 56, .ex 0 (.t 34), none⟩),
  (23, ⟨some 57, .ex 1 (.t 34), none⟩),
  (24, ⟨some 58, .ex 2 (.t 34), none⟩),
  (25, ⟨some 6, .mv (.t 56), none⟩),
  (26, ⟨some 7, .mv (.t 57), none⟩),
  (27, ⟨some 8, .mv (.t 58), none⟩)] [])
 (.seq (.regd [(0, ⟨some 59, .mv (.t 6), none⟩),
  (1, ⟨some 60, .mv (.t 5), none⟩),
  (2, ⟨some 61, .ia none 3 (.t 60) (.c (.int .i64 0)), none⟩),
  (3, ⟨some 62, .ld (some 3) (.t 61), none⟩),
  (4, ⟨some 63, .call 31 [(.t 62)], none⟩),
  (5, ⟨some 64, .bin .sub [] (.t 59) (.t 63), none⟩),
  (6, ⟨some 65, .mv (.t 6), none⟩),
  (7, ⟨some 66, .mv (.t 5), none⟩),
  (8, ⟨some 67, .ia none 3 (.t 66) (.c (.int .i64 1)), none⟩),
  (9, ⟨some 68, .ld (some 3) (.t 67), none⟩),
  (10, ⟨some 69, .call 31 [(.t 68)], none⟩),
  (11, ⟨some 70, .bin .sub [] (.t 65) (.t 69), none⟩),
  (12, ⟨some 9, .mv (.t 64), none⟩),
  (13, ⟨some 10, .mv (.t 70), none⟩)] [(9, 4)])
 (.seq (.reg [⟨some 71, .mv (.t 8), none⟩,
  ⟨some 72, .bin .eql [] (.t 71) (.c (.int .i64 0)), none⟩,
  ⟨some 73, .mv (.t 72), none⟩,
  ⟨some 74, .mv (.t 9), some (73, true)⟩,
  ⟨some 75, .mv (.t 9), some (73, true)⟩,
  ⟨some 76, .un .neg (.t 75), some (73, true)⟩,
  ⟨some 77, .mnx true [(.t 74), (.t 76)], some (73, true)⟩,
  ⟨some 78, .mv (.t 10), some (73, true)⟩,
  ⟨some 79, .mv (.t 10), some (73, true)⟩,
  ⟨some 80, .un .neg (.t 79), some (73, true)⟩,
  ⟨some 81, .mnx true [(.t 78), (.t 80)], some (73, true)⟩,
  ⟨some 82, .bin .add [] (.t 81) (.c (.int .i64 4)), some (73, true)⟩,
  ⟨some 83, .bin .leq [] (.t 77) (.t 82), some (73, true)⟩,
  ⟨some 84, .pick (.t 73) (.t 83) (.c (.bool false)), none⟩,
  ⟨some 85, .mv (.t 84), none⟩,
  ⟨some 86, .call 38 [], some (85, true)⟩,
  ⟨some 87, .pick (.t 85) (.t 86) (.c (.bool false)), none⟩,
  ⟨some 4, .mv (.t 87), none⟩])
 (.ret)))))),
 [.tmp 4], true⟩
/-- ephemeris/ephemerislaw24.CombineKnown -/
def M13 : MFunc := ⟨.seq (.reg [⟨some 0, .mv (.c (.bool false)), none⟩])
 (.seq (.reg [⟨some 21, .bld [(.int .i64 0), (.int .i64 0), (.int .i64 0)] [], none⟩,
  ⟨some 22, .call 34 [(.c .nils), (.t 21)], none⟩,
  ⟨some 20, .mv (.t 22), none⟩,
  ⟨some 23, .ex 0 (.t 20), none⟩,
  ⟨some 24, .ex 1 (.t 20), none⟩,
  ⟨some 25, .ex 2 (.t 20), none⟩,
  ⟨some 1, .mv (.t 23), none⟩,
  ⟨some 2, .mv (.t 24), none⟩,
  ⟨some 3, .mv (.t 25), none⟩])
 (.seq (.reg [⟨some 27, .bld [(.int .i64 0), (.int .i64 0), (.int .i64 0)] [(1, 1, (.c (.int .i64 1)))], none⟩,
  ⟨some 28, .call 34 [(.c .nils), (.t 27)], none⟩,
  ⟨some 26, .mv (.t 28), none⟩,
  ⟨some 29, .ex 0 (.t 26), none⟩,
  ⟨some 30, .ex 1 (.t 26), none⟩,
  ⟨some 31, .ex 2 (.t 26), none⟩,
  ⟨some 4, .mv (.t 29), none⟩,
  ⟨some 5, .mv (.t 30), none⟩,
  ⟨some 6, .mv (.t 31), none⟩])
 (.seq (.reg [⟨some 33, .bld [(.int .i64 0), (.int .i64 0), (.int .i64 0)] [(1, 1, (.c (.int .i64 2))), (2, 1, (.c (.int .i64 1)))], none⟩,
  ⟨some 34, .bsl (.ints .i64 [0, 0, 0]) 1 3 [(0, 3, (.t 33))], none⟩,
  ⟨some 35, .bld [(.int .i64 0), (.int .i64 0), (.int .i64 0)] [], none⟩,
  ⟨some 36, .call 34 [(.t 34), (.t 35)], none⟩,
  ⟨some 32, .mv (.t 36), none⟩,
  ⟨some 37, .ex 0 (.t 32), none⟩,
  ⟨some 38, .ex 1 (.t 32), none⟩,
  ⟨some 39, .ex 2 (.t 32), none⟩,
  ⟨some 7, .mv (.t 37), none⟩,
  ⟨some 8, .mv (.t 38), none⟩,
  ⟨some 9, .mv (.t 39), none⟩])
 (.seq (.reg [⟨some 41, .mks (.ints .i64 [0, 0, 0]) 24 (.c (.int .i64 17)) (.c (.int .i64 17)), none⟩,
  ⟨some 42, .bld [(.int .i64 0), (.int .i64 0), (.int .i64 0)] [], none⟩,
  ⟨some 43, .call 34 [(.t 41), (.t 42)], none⟩,
  ⟨some 40, .mv (.t 43), none⟩,
  ⟨some 44, .ex 0 (.t 40), none⟩,
  ⟨some 45, .ex 1 (.t 40), none⟩,
  ⟨some 46, .ex 2 (.t 40), none⟩,
  ⟨some 10, .mv (.t 44), none⟩,
  ⟨some 11, .mv (.t 45), none⟩,
  ⟨some 12, .mv (.t 46), none⟩])
 (.seq (.reg [⟨some 48, .mks (.ints .i64 [0, 0, 0]) 24 (.c (.int .i64 16)) (.c (.int .i64 16)), none⟩,
  ⟨some 49, .bld [(.int .i64 0), (.int .i64 0), (.int .i64 0)] [(2, 1, (.c (.int .i64 5)))], none⟩,
  ⟨some 50, .call 34 [(.t 48), (.t 49)], none⟩,
  ⟨some 47, .mv (.t 50), none⟩,
  ⟨some 51, .ex 0 (.t 47), none⟩,
  ⟨some 52, .ex 1 (.t 47), none⟩,
  ⟨some 53, .ex 2 (.t 47), none⟩,
  ⟨some 13, .mv (.t 51), none⟩,
  ⟨some 14, .mv (.t 52), none⟩,
  ⟨some 15, .mv (.t 53), none⟩])
 (.seq (.reg [⟨some 54, .bld [(.int .i64 0), (.int .i64 0), (.int .i64 0)] [(2, 1, (.c (.int .i64 4611686018427387904)))], none⟩,
  ⟨some 55, .bld [(.int .i64 0), (.int .i64 0), (.int .i64 0)] [], none⟩,
  ⟨some 56, .bld [(.int .i64 0), (.int .i64 0), (.int .i64 0)] [(2, 1, (.c (.int .i64 1023)))], none⟩,
  ⟨some 57, .bsl (.ints .i64 [0, 0, 0]) 3 3 [(0, 3, (.t 54)), (3, 3, (.t 55)), (6, 3, (.t 56))], none⟩,
  ⟨some 58, .call 36 [(.t 57)], none⟩,
  ⟨some 16, .mv (.t 58), none⟩])
 (.seq (.reg [⟨some 60, .bld [(.int .i64 0), (.int .i64 0), (.int .i64 0)] [(2, 1, (.c (.int .i64 4611686018427387904)))], none⟩,
  ⟨some 61, .bld [(.int .i64 0), (.int .i64 0), (.int .i64 0)] [(1, 1, (.c (.int .i64 4611686018427387904))), (2, 1, (.c (.int .i64 4611686018427387904)))], none⟩,
  ⟨some 62, .bsl (.ints .i64 [0, 0, 0]) 2 3 [(0, 3, (.t 60)), (3, 3, (.t 61))], none⟩,
  ⟨some 63, .bld [(.int .i64 0), (.int .i64 0), (.int .i64 0)] [(2, 1, (.c (.int .i64 4611686018427387904)))], none⟩,
  ⟨some 64, .call 34 [(.t 62), (.t 63)], none⟩,
  ⟨some 59, .mv (.t 64), none⟩,
  ⟨some 65, .ex 0 (.t 59), none⟩,
  ⟨some 66, .ex 1 (.t 59), none⟩,
  ⟨some 67, .ex 2 (.t 59), none⟩,
  ⟨some 17, .mv (.t 65), none⟩,
  ⟨some 18, .mv (.t 66), none⟩,
  ⟨some 19, .mv (.t 67), none⟩])
 (.seq (.reg [⟨some 68, .mv (.t 3), none⟩,
  ⟨some 69, .bin .eql [] (.t 68) (.c (.int .i64 33)), none⟩,
  ⟨some 70, .mv (.t 69), none⟩,
  ⟨some 71, .mv (.t 6), some (70, true)⟩,
  ⟨some 72, .bin .eql [] (.t 71) (.c (.int .i64 1)), some (70, true)⟩,
  ⟨some 73, .pick (.t 70) (.t 72) (.c (.bool false)), none⟩,
  ⟨some 74, .mv (.t 73), none⟩,
  ⟨some 75, .mv (.t 9), some (74, true)⟩,
  ⟨some 76, .bin .eql [] (.t 75) (.c (.int .i64 1)), some (74, true)⟩,
  ⟨some 77, .pick (.t 74) (.t 76) (.c (.bool false)), none⟩,
  ⟨some 78, .mv (.t 77), none⟩,
  ⟨some 79, .mv (.t 12), some (78, true)⟩,
  ⟨some 80, .bin .eql [] (.t 79) (.c (.int .i64 1)), some (78, true)⟩,
  ⟨some 81, .pick (.t 78) (.t 80) (.c (.bool false)), none⟩,
  ⟨some 82, .mv (.t 81), none⟩,
  ⟨some 83, .mv (.t 15), some (82, true)⟩,
  ⟨some 84, .bin .eql [] (.t 83) (.c (.int .i64 0)), some (82, true)⟩,
  ⟨some 85, .pick (.t 82) (.t 84) (.c (.bool false)), none⟩,
  ⟨some 86, .mv (.t 85), none⟩,
  ⟨some 87, .mv (.t 13), some (86, true)⟩,
  ⟨some 88, .bin .eql [] (.t 87) (.c (.int .i64 0)), some (86, true)⟩,
  ⟨some 89, .pick (.t 86) (.t 88) (.c (.bool false)), none⟩,
  ⟨some 90, .mv (.t 89), none⟩,
  ⟨some 91, .mv (.t 14), some (90, true)⟩,
  ⟨some 92, .bin .eql [] (.t 91) (.c (.int .i64 0)), some (90, true)⟩,
  ⟨some 93, .pick (.t 90) (.t 92) (.c (.bool false)), none⟩,
  ⟨some 94, .mv (.t 93), none⟩,
  ⟨some 95, .mv (.t 16), some (94, true)⟩,
  ⟨some 96, .len none (.t 95), some (94, true)⟩,
  ⟨some 97, .bin .eql [] (.t 96) (.c (.int .i64 3)), some (94, true)⟩,
  ⟨some 98, .pick (.t 94) (.t 97) (.c (.bool false)), none⟩,
  ⟨some 99, .mv (.t 98), none⟩,
  ⟨some 100, .mv (.t 16), some (99, true)⟩,
  ⟨some 101, .ia none 1 (.t 100) (.c (.int .i64 0)), some (99, true)⟩,
  ⟨some 102, .ld none (.t 101), some (99, true)⟩,
  ⟨some 103, .bin .eql [] (.t 102) (.c (.int .i64 1024)), some (99, true)⟩,
  ⟨some 104, .pick (.t 99) (.t 103) (.c (.bool false)), none⟩,
  ⟨some 105, .mv (.t 104), none⟩,
  ⟨some 106, .mv (.t 16), some (105, true)⟩,
  ⟨some 107, .ia none 1 (.t 106) (.c (.int .i64 1)), some (105, true)⟩,
  ⟨some 108, .ld none (.t 107), some (105, true)⟩,
  ⟨some 109, .bin .eql [] (.t 108) (.c (.int .i64 1048576)), some (105, true)⟩,
  ⟨some 110, .pick (.t 105) (.t 109) (.c (.bool false)), none⟩,
  ⟨some 111, .mv (.t 110), none⟩,
  ⟨some 112, .mv (.t 16), some (111, true)⟩,
  ⟨some 113, .ia none 1 (.t 112) (.c (.int .i64 2)), some (111, true)⟩,
  ⟨some 114, .ld none (.t 113), some (111, true)⟩,
  ⟨some 115, .bin .eql [] (.t 114) (.c (.int .i64 1048576)), some (111, true)⟩,
  ⟨some 116, .pick (.t 111) (.t 115) (.c (.bool false)), none⟩,
  ⟨some 117, .mv (.t 116), none⟩,
  ⟨some 118, .mv (.t 19), some (117, true)⟩,
  ⟨some 119, .bin .eql [] (.t 118) (.c (.int .i64 0)), some (117, true)⟩,
  ⟨some 120, .pick (.t 117) (.t 119) (.c (.bool false)), none⟩,
  ⟨some 121, .mv (.t 120), none⟩,
  ⟨some 122, .mv (.t 17), some (121, true)⟩,
  ⟨some 123, .bin .gtr [] (.t 122) (.c (.int .i64 4607182418800017408)), some (121, true)⟩,
  ⟨some 124, .pick (.t 121) (.t 123) (.c (.bool false)), none⟩,
  ⟨some 125, .mv (.t 124), none⟩,
  ⟨some 126, .mv (.t 17), some (125, true)⟩,
  ⟨some 127, .bin .leq [] (.t 126) (.c (.int .i64 4611686018427387904)), some (125, true)⟩,
  ⟨some 128, .pick (.t 125) (.t 127) (.c (.bool false)), none⟩,
  ⟨some 129, .mv (.t 128), none⟩,
  ⟨some 130, .mv (.t 18), some (129, true)⟩,
  ⟨some 131, .bin .gtr [] (.t 130) (.c (.int .i64 0)), some (129, true)⟩,
  ⟨some 132, .pick (.t 129) (.t 131) (.c (.bool false)), none⟩,
  ⟨some 133, .mv (.t 132), none⟩,
  ⟨some 134, .bld [(.int .i64 0), (.int .i64 0), (.int .i64 0)] [(1, 1, (.c (.int .i64 2))), (2, 1, (.c (.int .i64 1)))], some (133, true)⟩,
  ⟨some 135, .bsl (.ints .i64 [0, 0, 0]) 1 3 [(0, 3, (.t 134))], some (133, true)⟩,
  ⟨some 136, .call 36 [(.t 135)], some (133, true)⟩,
  ⟨some 137, .len none (.t 136), some (133, true)⟩,
  ⟨some 138, .bin .eql [] (.t 137) (.c (.int .i64 0)), some (133, true)⟩,
  ⟨some 139, .pick (.t 133) (.t 138) (.c (.bool false)), none⟩,
  ⟨some 140, .mv (.t 139), none⟩,
  ⟨some 141, .call 38 [], some (140, true)⟩,
  ⟨some 142, .pick (.t 140) (.t 141) (.c (.bool false)), none⟩,
  ⟨some 0, .mv (.t 142), none⟩])
 (.ret))))))))),
 [.tmp 0], true⟩
/-- ephemeris/ephemerislaw19.SpanAges -/
def M14 : MFunc := ⟨.seq (.reg [⟨some 3, .bx (some .i64) 3 (.t 0), none⟩,
  ⟨some 4, .bx (some .i64) 3 (.t 1), none⟩,
  ⟨some 5, .bx (some .i64) 5 (.t 2), none⟩,
  ⟨some 6, .mv (.c (.bool false)), none⟩])
 (.seq (.regd [(0, ⟨some 23, .fa 0 (.t 5), none⟩),
  (1, ⟨some 24, .ld none (.t 23), none⟩),
  (2, ⟨some 25, .bin .and [] (.t 24) (.c (.int .i64 536870911)), none⟩),
  (3, ⟨some 26, .bin .add [] (.c (.int .i64 1)) (.t 25), none⟩),
  (4, ⟨some 27, .fa 1 (.t 5), none⟩),
  (5, ⟨some 28, .ld none (.t 27), none⟩),
  (6, ⟨some 29, .bin .and [] (.t 28) (.c (.int .i64 262143)), none⟩),
  (7, ⟨some 7, .mv (.t 26), none⟩),
  (8, ⟨some 8, .mv (.t 29), none⟩)] [])
 (.seq (.reg [⟨some 31, .mv (.t 7), none⟩,
  ⟨some 32, .mv (.t 8), none⟩,
  ⟨some 33, .call 15 [(.t 31), (.t 32)], none⟩,
  ⟨some 30, .mv (.t 33), none⟩,
  ⟨some 34, .ex 0 (.t 30), none⟩,
  ⟨some 35, .ex 1 (.t 30), none⟩,
  ⟨some 9, .mv (.t 34), none⟩,
  ⟨some 10, .mv (.t 35), none⟩])
 (.seq (.reg [⟨some 37, .mv (.t 7), none⟩,
  ⟨some 38, .mv (.t 8), none⟩,
  ⟨some 39, .call 16 [(.t 37), (.t 38)], none⟩,
  ⟨some 36, .mv (.t 39), none⟩,
  ⟨some 40, .ex 0 (.t 36), none⟩,
  ⟨some 41, .ex 1 (.t 36), none⟩,
  ⟨some 11, .mv (.t 40), none⟩,
  ⟨some 12, .mv (.t 41), none⟩])
 (.seq (.seq (.reg [⟨some 42, .mv (.t 10), none⟩,
  ⟨some 43, .bin .neq [] (.t 42) (.c (.int .i64 0)), none⟩,
  ⟨some 44, .mv (.t 43), none⟩,
  ⟨some 45, .mv (.t 12), some (44, false)⟩,
  ⟨some 46, .bin .neq [] (.t 45) (.c (.int .i64 0)), some (44, false)⟩,
  ⟨some 47, .pick (.t 44) (.c (.bool true)) (.t 46), none⟩])
 (.cond (.t 47)
 (.seq (.reg [⟨some 6, .mv (.c (.bool false)), none⟩])
 (.ret))
 (.skip)))
 (.seq (.reg [⟨some 49, .mv (.t 9), none⟩,
  ⟨some 50, .ld (some 3) (.t 3), none⟩,
  ⟨some 51, .fa 2 (.t 5), none⟩,
  ⟨some 52, .ld none (.t 51), none⟩,
  ⟨some 53, .call 30 [(.t 49), (.t 50), (.t 52)], none⟩,
  ⟨some 48, .mv (.t 53), none⟩,
  ⟨some 54, .ex 0 (.t 48), none⟩,
  ⟨some 55, .ex 1 (.t 48), none⟩,
  ⟨some 13, .al (.ints .i64 [0, 0, 0]), none⟩,
  ⟨none, .st 3 (.t 13) (.t 54), none⟩,
  ⟨some 14, .mv (.t 55), none⟩])
 (.seq (.reg [⟨some 57, .mv (.t 11), none⟩,
  ⟨some 58, .ld (some 3) (.t 3), none⟩,
  ⟨some 59, .fa 2 (.t 5), none⟩,
  ⟨some 60, .ld none (.t 59), none⟩,
  ⟨some 61, .call 40 [(.t 57), (.t 58), (.t 60)], none⟩,
  ⟨some 56, .mv (.t 61), none⟩,
  ⟨some 62, .ex 0 (.t 56), none⟩,
  ⟨some 63, .ex 1 (.t 56), none⟩,
  ⟨some 15, .al (.ints .i64 [0, 0, 0]), none⟩,
  ⟨none, .st 3 (.t 15) (.t 62), none⟩,
  ⟨some 16, .mv (.t 63), none⟩])
 (.seq (.reg [⟨some 65, .ld (some 3) (.t 3), none⟩,
  ⟨some 66, .ld (some 3) (.t 4), none⟩,
  ⟨some 67, .call 33 [(.t 65), (.t 66)], none⟩,
  ⟨some 64, .mv (.t 67), none⟩,
  ⟨some 68, .ex 0 (.t 64), none⟩,
  ⟨some 69, .ex 1 (.t 64), none⟩,
  ⟨some 17, .al (.ints .i64 [0, 0, 0]), none⟩,
  ⟨none, .st 3 (.t 17) (.t 68), none⟩,
  ⟨some 18, .mv (.t 69), none⟩])
 (.seq (.reg [⟨some 71, .ld (some 3) (.t 3), none⟩,
  ⟨some 72, .ld (some 3) (.t 4), none⟩,
  ⟨some 73, .call 41 [(.t 71), (.t 72)], none⟩,
  ⟨some 70, .mv (.t 73), none⟩,
  ⟨some 74, .ex 0 (.t 70), none⟩,
  ⟨some 75, .ex 1 (.t 70), none⟩,
  ⟨some 19, .al (.ints .i64 [0, 0, 0]), none⟩,
  ⟨none, .st 3 (.t 19) (.t 74), none⟩,
  ⟨some 20, .mv (.t 75), none⟩])
 (.seq (.reg [⟨some 21, .mv (.c (.int .i64 0)), none⟩])
 (.seq (.seq (.reg [⟨some 76, .ld (some 3) (.t 3), none⟩,
  ⟨some 77, .call 42 [(.t 76)], none⟩])
 (.cond (.t 77)
 (.reg [⟨some 78, .fa 2 (.t 3), none⟩,
  ⟨some 79, .ld none (.t 78), none⟩,
  ⟨some 80, .fa 1 (.t 3), none⟩,
  ⟨some 81, .ld none (.t 80), none⟩,
  ⟨some 82, .bin .sub [] (.t 79) (.t 81), none⟩,
  ⟨some 21, .mv (.t 82), none⟩])
 (.skip)))
 (.seq (.reg [⟨some 83, .ld (some 3) (.t 3), none⟩,
  ⟨some 84, .call 42 [(.t 83)], none⟩,
  ⟨some 85, .mv (.t 84), none⟩,
  ⟨some 86, .fa 3 (.t 5), some (85, true)⟩,
  ⟨some 87, .ld none (.t 86), some (85, true)⟩,
  ⟨some 88, .fa 1 (.t 3), some (85, true)⟩,
  ⟨some 89, .ld none (.t 88), some (85, true)⟩,
  ⟨some 90, .bin .geq [] (.t 87) (.t 89), some (85, true)⟩,
  ⟨some 91, .pick (.t 85) (.t 90) (.c (.bool false)), none⟩,
  ⟨some 92, .mv (.t 91), none⟩,
  ⟨some 93, .fa 3 (.t 5), some (92, true)⟩,
  ⟨some 94, .ld none (.t 93), some (92, true)⟩,
  ⟨some 95, .fa 2 (.t 3), some (92, true)⟩,
  ⟨some 96, .ld none (.t 95), some (92, true)⟩,
  ⟨some 97, .bin .leq [] (.t 94) (.t 96), some (92, true)⟩,
  ⟨some 98, .pick (.t 92) (.t 97) (.c (.bool false)), none⟩,
  ⟨some 22, .mv (.t 98), none⟩])
 (.seq (.regd [(0, ⟨some 99, .call 17 [], none⟩),
  (1, ⟨some 100, .mv (.t 99), none⟩),
  (2, ⟨some 101, .ld (some 3) (.t 13), some (100, true)⟩),
  (3, ⟨some 102, .ld (some 3) (.t 15), some (100, true)⟩),
  (4, ⟨some 103, .bin .eql [5, 0, 0, 0] (.t 101) (.t 102), some (100, true)⟩),
  (5, ⟨some 104, .pick (.t 100) (.t 103) (.c (.bool false)), none⟩),
  (6, ⟨some 105, .mv (.t 104), none⟩),
  (7, ⟨some 106, .mv (.t 14), some (105, true)⟩),
  (8, ⟨some 107, .mv (.t 16), some (105, true)⟩),
  (9, ⟨some 108, .bin .eql [] (.t 106) (.t 107), some (105, true)⟩),
  (10, ⟨some 109, .pick (.t 105) (.t 108) (.c (.bool false)), none⟩),
  (11, ⟨some 110, .mv (.t 109), none⟩),
  (12, ⟨some 111, .ld (some 3) (.t 17), some (110, true)⟩),
  (13, ⟨some 112, .ld (some 3) (.t 19), some (110, true)⟩),
  (14, ⟨some 113, .bin .eql [5, 0, 0, 0] (.t 111) (.t 112), some (110, true)⟩),
  (15, ⟨some 114, .pick (.t 110) (.t 113) (.c (.bool false)), none⟩),
  (16, ⟨some 115, .mv (.t 114), none⟩),
  (17, ⟨some 116, .mv (.t 18), some (115, true)⟩),
  (18, ⟨some 117, .mv (.t 20), some (115, true)⟩),
  (19, ⟨some 118, .bin .eql [1] (.t 116) (.t 117), some (115, true)⟩),
  (20, ⟨some 119, .pick (.t 115) (.t 118) (.c (.bool false)), none⟩),
  (21, ⟨some 120, .mv (.t 119), none⟩),
  (22, ⟨some 121, .ld (some 3) (.t 3), some (120, true)⟩),
  (23, ⟨some 122, .call 28 [(.t 121)], some (120, true)⟩),
  (24, ⟨some 123, .ld (some 3) (.t 3), some (120, true)⟩),
  (25, ⟨some 124, .call 42 [(.t 123)], some (120, true)⟩),
  (26, ⟨some 125, .bin .eql [1] (.t 122) (.t 124), some (120, true)⟩),
  (27, ⟨some 126, .pick (.t 120) (.t 125) (.c (.bool false)), none⟩),
  (28, ⟨some 127, .mv (.t 126), none⟩),
  (29, ⟨some 128, .ld (some 3) (.t 3), some (127, true)⟩),
  (30, ⟨some 129, .call 31 [(.t 128)], some (127, true)⟩),
  (31, ⟨some 130, .ld (some 3) (.t 3), some (127, true)⟩),
  (32, ⟨some 131, .call 43 [(.t 130)], some (127, true)⟩),
  (33, ⟨some 132, .bin .eql [] (.t 129) (.t 131), some (127, true)⟩),
  (34, ⟨some 133, .pick (.t 127) (.t 132) (.c (.bool false)), none⟩),
  (35, ⟨some 134, .mv (.t 133), none⟩),
  (36, ⟨some 135, .ld (some 3) (.t 3), some (134, true)⟩),
  (37, ⟨some 136, .call 24 [(.t 135)], some (134, true)⟩),
  (38, ⟨some 137, .mv (.t 21), some (134, true)⟩),
  (39, ⟨some 138, .bin .eql [] (.t 136) (.t 137), some (134, true)⟩),
  (40, ⟨some 139, .pick (.t 134) (.t 138) (.c (.bool false)), none⟩),
  (41, ⟨some 140, .mv (.t 139), none⟩),
  (42, ⟨some 141, .ld (some 3) (.t 3), some (140, true)⟩),
  (43, ⟨some 142, .fa 3 (.t 5), some (140, true)⟩),
  (44, ⟨some 143, .ld none (.t 142), some (140, true)⟩),
  (45, ⟨some 144, .call 29 [(.t 141), (.t 143)], some (140, true)⟩),
  (46, ⟨some 145, .mv (.t 22), some (140, true)⟩),
  (47, ⟨some 146, .bin .eql [1] (.t 144) (.t 145), some (140, true)⟩),
  (48, ⟨some 147, .pick (.t 140) (.t 146) (.c (.bool false)), none⟩),
  (49, ⟨some 6, .mv (.t 147), none⟩)] [(24, 23), (31, 30)])
 (.ret))))))))))))),
 [.tmp 6], true⟩
/-- ephemeris/span.New -/
def M15 : MFunc := ⟨.seq (.reg [⟨some 4, .mv (.c .nilp), none⟩,
  ⟨some 5, .mv (.c (.int .i64 0)), none⟩])
 (.seq (.seq (.reg [⟨some 6, .mv (.t 0), none⟩,
  ⟨some 7, .bin .lss [] (.t 6) (.c (.int .i64 1)), none⟩,
  ⟨some 8, .mv (.t 7), none⟩,
  ⟨some 9, .mv (.t 0), some (8, false)⟩,
  ⟨some 10, .bin .gtr [] (.t 9) (.c (.int .i64 1000000000)), some (8, false)⟩,
  ⟨some 11, .pick (.t 8) (.c (.bool true)) (.t 10), none⟩,
  ⟨some 12, .mv (.t 11), none⟩,
  ⟨some 13, .mv (.t 1), some (12, false)⟩,
  ⟨some 14, .bin .lss [] (.t 13) (.c (.int .i64 0)), some (12, false)⟩,
  ⟨some 15, .pick (.t 12) (.c (.bool true)) (.t 14), none⟩,
  ⟨some 16, .mv (.t 15), none⟩,
  ⟨some 17, .mv (.t 1), some (16, false)⟩,
  ⟨some 18, .bin .gtr [] (.t 17) (.c (.int .i64 500000)), some (16, false)⟩,
  ⟨some 19, .pick (.t 16) (.c (.bool true)) (.t 18), none⟩])
 (.cond (.t 19)
 (.seq (.reg [⟨some 4, .mv (.c .nilp), none⟩,
  ⟨some 5, .mv (.c (.int .i64 1)), none⟩])
 (.ret))
 (.skip)))
 (.seq (.reg [⟨some 20, .mv (.t 0), none⟩,
  ⟨some 21, .mv (.t 1), none⟩,
  ⟨some 22, .bld [(.int .i64 0), (.int .i64 0), (.bool false)] [(0, 1, (.t 20)), (1, 1, (.t 21)), (2, 1, (.c (.bool true)))], none⟩,
  ⟨some 23, .bx none 3 (.t 22), none⟩,
  ⟨some 4, .mv (.t 23), none⟩,
  ⟨some 5, .mv (.c (.int .i64 0)), none⟩])
 (.ret))),
 [.tmp 4, .tmp 5], true⟩
/-- ephemeris/ephemerisref19.New -/
def M16 : MFunc := ⟨.seq (.reg [⟨some 4, .mv (.c .nilp), none⟩,
  ⟨some 5, .mv (.c (.int .i64 0)), none⟩])
 (.seq (.seq (.reg [⟨some 6, .mv (.t 0), none⟩,
  ⟨some 7, .bin .lss [] (.t 6) (.c (.int .i64 1)), none⟩,
  ⟨some 8, .mv (.t 7), none⟩,
  ⟨some 9, .mv (.t 0), some (8, false)⟩,
  ⟨some 10, .bin .gtr [] (.t 9) (.c (.int .i64 1000000000)), some (8, false)⟩,
  ⟨some 11, .pick (.t 8) (.c (.bool true)) (.t 10), none⟩,
  ⟨some 12, .mv (.t 11), none⟩,
  ⟨some 13, .mv (.t 1), some (12, false)⟩,
  ⟨some 14, .bin .lss [] (.t 13) (.c (.int .i64 0)), some (12, false)⟩,
  ⟨some 15, .pick (.t 12) (.c (.bool true)) (.t 14), none⟩,
  ⟨some 16, .mv (.t 15), none⟩,
  ⟨some 17, .mv (.t 1), some (16, false)⟩,
  ⟨some 18, .bin .gtr [] (.t 17) (.c (.int .i64 500000)), some (16, false)⟩,
  ⟨some 19, .pick (.t 16) (.c (.bool true)) (.t 18), none⟩])
 (.cond (.t 19)
 (.seq (.reg [⟨some 4, .mv (.c .nilp), none⟩,
  ⟨some 5, .mv (.c (.int .i64 1)), none⟩])
 (.ret))
 (.skip)))
 (.seq (.reg [⟨some 20, .mv (.t 0), none⟩,
  ⟨some 21, .mv (.t 1), none⟩,
  ⟨some 22, .bld [(.int .i64 0), (.int .i64 0)] [(0, 1, (.t 20)), (1, 1, (.t 21))], none⟩,
  ⟨some 23, .bx (some .i64) 2 (.t 22), none⟩,
  ⟨some 4, .mv (.t 23), none⟩,
  ⟨some 5, .mv (.c (.int .i64 0)), none⟩])
 (.ret))),
 [.tmp 4, .tmp 5], true⟩
/-- ephemeris/ephemerislaw19.awake -/
def M17 : MFunc := ⟨.seq (.reg [⟨some 0, .mv (.c (.bool false)), none⟩])
 (.seq (.reg [⟨some 8, .call 15 [(.c (.int .i64 1000)), (.c (.int .i64 100000))], none⟩,
  ⟨some 7, .mv (.t 8), none⟩,
  ⟨some 9, .ex 0 (.t 7), none⟩,
  ⟨some 10, .ex 1 (.t 7), none⟩,
  ⟨some 1, .mv (.t 9), none⟩,
  ⟨some 2, .mv (.t 10), none⟩])
 (.seq (.seq (.reg [⟨some 11, .mv (.t 2), none⟩,
  ⟨some 12, .bin .neq [] (.t 11) (.c (.int .i64 0)), none⟩])
 (.cond (.t 12)
 (.seq (.reg [⟨some 0, .mv (.c (.bool false)), none⟩])
 (.ret))
 (.skip)))
 (.seq (.reg [⟨some 14, .mv (.t 1), none⟩,
  ⟨some 15, .call 18 [(.t 14), (.c (.int .i64 0)), (.c (.int .i64 1000000)), (.c (.int .i64 5000)), (.c (.int .i64 6000)), (.c (.int .i64 100))], none⟩,
  ⟨some 13, .mv (.t 15), none⟩,
  ⟨some 16, .ex 0 (.t 13), none⟩,
  ⟨some 17, .ex 1 (.t 13), none⟩,
  ⟨some 3, .al (.ints .i64 [0, 0, 0]), none⟩,
  ⟨none, .st 3 (.t 3) (.t 16), none⟩,
  ⟨some 4, .mv (.t 17), none⟩])
 (.seq (.reg [⟨some 19, .mv (.t 1), none⟩,
  ⟨some 20, .call 18 [(.t 19), (.c (.int .i64 0)), (.c (.int .i64 10)), (.c (.int .i64 5000)), (.c (.int .i64 99999)), (.c (.int .i64 100))], none⟩,
  ⟨some 18, .mv (.t 20), none⟩,
  ⟨some 21, .ex 0 (.t 18), none⟩,
  ⟨some 22, .ex 1 (.t 18), none⟩,
  ⟨some 5, .al (.ints .i64 [0, 0, 0]), none⟩,
  ⟨none, .st 3 (.t 5) (.t 21), none⟩,
  ⟨some 6, .mv (.t 22), none⟩])
 (.seq (.reg [⟨some 23, .mv (.t 1), none⟩,
  ⟨some 24, .call 19 [(.t 23), (.c (.int .i64 1000000000))], none⟩,
  ⟨some 25, .bin .eql [] (.t 24) (.c (.int .i64 1000101012)), none⟩,
  ⟨some 26, .mv (.t 25), none⟩,
  ⟨some 27, .mv (.t 1), some (26, true)⟩,
  ⟨some 28, .call 20 [(.t 27), (.c (.int .i64 1000000000))], some (26, true)⟩,
  ⟨some 29, .bin .eql [] (.t 28) (.c (.int .i64 999899009)), some (26, true)⟩,
  ⟨some 30, .pick (.t 26) (.t 29) (.c (.bool false)), none⟩,
  ⟨some 31, .mv (.t 30), none⟩,
  ⟨some 32, .mv (.t 4), some (31, true)⟩,
  ⟨some 33, .bin .eql [] (.t 32) (.c (.int .i64 0)), some (31, true)⟩,
  ⟨some 34, .pick (.t 31) (.t 33) (.c (.bool false)), none⟩,
  ⟨some 35, .mv (.t 34), none⟩,
  ⟨some 36, .ld (some 3) (.t 3), some (35, true)⟩,
  ⟨some 37, .bld [(.int .i64 0), (.int .i64 0), (.int .i64 0)] [(0, 1, (.c (.int .i64 1000000))), (1, 1, (.c (.int .i64 5900))), (2, 1, (.c (.int .i64 1006203)))], some (35, true)⟩,
  ⟨some 38, .bin .eql [5, 0, 0, 0] (.t 36) (.t 37), some (35, true)⟩,
  ⟨some 39, .pick (.t 35) (.t 38) (.c (.bool false)), none⟩,
  ⟨some 40, .mv (.t 39), none⟩,
  ⟨some 41, .mv (.t 6), some (40, true)⟩,
  ⟨some 42, .bin .eql [] (.t 41) (.c (.int .i64 30)), some (40, true)⟩,
  ⟨some 43, .pick (.t 40) (.t 42) (.c (.bool false)), none⟩,
  ⟨some 0, .mv (.t 43), none⟩])
 (.ret)))))),
 [.tmp 0], true⟩
/-- (*ephemeris/span.Ruler).Of -/
def M18 : MFunc := ⟨.seq (.reg [⟨some 12, .al (.ints .i64 [0, 0, 0]), none⟩,
  ⟨some 13, .mv (.c (.int .i64 0)), none⟩])
 (.seq (.block 0 [0, 1, 2, 3, 4, 5, 12]
 (.seq (.reg [⟨some 16, .mv (.t 0), none⟩,
  ⟨some 17, .call 44 [(.t 16)], none⟩,
  ⟨some 15, .mv (.t 17), none⟩])
 (.cond (.t 15)
 (.seq (.reg [⟨some 18, .bld [(.int .i64 0), (.int .i64 0), (.int .i64 0)] [], none⟩,
  ⟨none, .st 3 (.t 12) (.t 18), none⟩,
  ⟨some 13, .mv (.c (.int .i64 2)), none⟩])
 (.ret))
 (.seq (.reg [⟨some 20, .mv (.t 1), none⟩,
  ⟨some 21, .mv (.t 2), none⟩,
  ⟨some 22, .mv (.t 3), none⟩,
  ⟨some 23, .mv (.t 4), none⟩,
  ⟨some 24, .mv (.t 5), none⟩,
  ⟨some 25, .bsl (.ints .i64 [0]) 5 1 [(0, 1, (.t 20)), (1, 1, (.t 21)), (2, 1, (.t 22)), (3, 1, (.t 23)), (4, 1, (.t 24))], none⟩,
  ⟨some 26, .call 45 [(.t 25)], none⟩,
  ⟨some 27, .un .not (.t 26), none⟩,
  ⟨some 28, .mv (.t 27), none⟩,
  ⟨some 29, .mv (.t 2), some (28, false)⟩,
  ⟨some 30, .mv (.t 1), some (28, false)⟩,
  ⟨some 31, .bin .lss [] (.t 29) (.t 30), some (28, false)⟩,
  ⟨some 32, .pick (.t 28) (.c (.bool true)) (.t 31), none⟩,
  ⟨some 19, .mv (.t 32), none⟩])
 (.cond (.t 19)
 (.seq (.reg [⟨some 33, .bld [(.int .i64 0), (.int .i64 0), (.int .i64 0)] [], none⟩,
  ⟨none, .st 3 (.t 12) (.t 33), none⟩,
  ⟨some 13, .mv (.c (.int .i64 1)), none⟩])
 (.ret))
 (.skip))))))
 (.seq (.reg [⟨some 34, .mv (.t 2), none⟩,
  ⟨some 35, .mv (.t 4), none⟩,
  ⟨some 36, .mv (.t 5), none⟩,
  ⟨some 37, .un .neg (.t 36), none⟩,
  ⟨some 38, .bld [(.int .i64 0), (.int .i64 0)] [(0, 1, (.t 35)), (1, 1, (.t 37))], none⟩,
  ⟨some 39, .mv (.t 3), none⟩,
  ⟨some 40, .mv (.t 5), none⟩,
  ⟨some 41, .call 47 [(.t 39), (.t 40)], none⟩,
  ⟨some 42, .mv (.t 0), none⟩,
  ⟨some 43, .mv (.t 2), none⟩,
  ⟨some 44, .mv (.t 1), none⟩,
  ⟨some 45, .bin .sub [] (.t 43) (.t 44), none⟩,
  ⟨some 46, .call 19 [(.t 42), (.t 45)], none⟩,
  ⟨some 47, .bin .add [] (.c (.int .i64 1)) (.t 46), none⟩,
  ⟨some 48, .bld [(.int .i64 0), (.int .i64 0)] [(0, 1, (.t 41)), (1, 1, (.t 47))], none⟩,
  ⟨some 49, .bld [(.int .i64 0), (.int .i64 0), (.int .i64 0), (.int .i64 0)] [(0, 2, (.t 38)), (2, 2, (.t 48))], none⟩,
  ⟨some 50, .call 46 [(.t 34), (.t 49)], none⟩,
  ⟨some 14, .al (.ints .i64 [0, 0, 0]), none⟩,
  ⟨none, .st 3 (.t 14) (.t 50), none⟩])
 (.seq (.seq (.reg [⟨some 51, .fa 1 (.t 14), none⟩,
  ⟨some 52, .ld none (.t 51), none⟩,
  ⟨some 53, .fa 2 (.t 14), none⟩,
  ⟨some 54, .ld none (.t 53), none⟩,
  ⟨some 55, .bin .gtr [] (.t 52) (.t 54), none⟩])
 (.cond (.t 55)
 (.seq (.reg [⟨some 56, .bld [(.int .i64 0), (.int .i64 0), (.int .i64 0)] [], none⟩,
  ⟨none, .st 3 (.t 12) (.t 56), none⟩,
  ⟨some 13, .mv (.c (.int .i64 30)), none⟩])
 (.ret))
 (.skip)))
 (.seq (.reg [⟨some 57, .ld (some 3) (.t 14), none⟩,
  ⟨none, .st 3 (.t 12) (.t 57), none⟩,
  ⟨some 13, .mv (.c (.int .i64 0)), none⟩])
 (.ret))))),
 [.cell 12 (some 3), .tmp 13], true⟩
/-- (*ephemeris/span.Ruler).Up -/
def M19 : MFunc := ⟨.seq (.reg [⟨some 4, .mv (.c (.int .i64 0)), none⟩])
 (.seq (.seq (.reg [⟨some 7, .mv (.t 0), none⟩,
  ⟨some 8, .call 44 [(.t 7)], none⟩])
 (.cond (.t 8)
 (.seq (.reg [⟨some 4, .mv (.c (.int .i64 0)), none⟩])
 (.ret))
 (.skip)))
 (.seq (.regd [(0, ⟨some 10, .mv (.t 1), none⟩),
  (1, ⟨some 11, .call 49 [(.t 10)], none⟩),
  (2, ⟨some 12, .mv (.t 0), none⟩),
  (3, ⟨some 13, .nc (.t 12), none⟩),
  (4, ⟨some 14, .fa 0 (.t 13), none⟩),
  (5, ⟨some 15, .ld none (.t 14), none⟩),
  (6, ⟨some 16, .bin .add [] (.t 11) (.t 15), none⟩),
  (7, ⟨some 17, .bin .add [] (.t 16) (.c (.int .i64 1)), none⟩),
  (8, ⟨some 18, .mv (.t 0), none⟩),
  (9, ⟨some 19, .nc (.t 18), none⟩),
  (10, ⟨some 20, .fa 1 (.t 19), none⟩),
  (11, ⟨some 21, .ld none (.t 20), none⟩),
  (12, ⟨some 22, .bin .sub [] (.c (.int .i64 1000000000)) (.t 21), none⟩),
  (13, ⟨some 23, .call 48 [(.t 17), (.c (.int .i64 1000000000)), (.t 22)], none⟩),
  (14, ⟨some 9, .mv (.t 23), none⟩),
  (15, ⟨some 24, .ex 0 (.t 9), none⟩),
  (16, ⟨some 25, .ex 1 (.t 9), none⟩),
  (17, ⟨some 5, .mv (.t 24), none⟩),
  (18, ⟨some 6, .mv (.t 25), none⟩)] [(5, 1), (11, 1)])
 (.seq (.seq (.reg [⟨some 26, .mv (.t 6), none⟩,
  ⟨some 27, .bin .neq [] (.t 26) (.c (.int .i64 0)), none⟩])
 (.cond (.t 27)
 (.seq (.reg [⟨some 4, .mv (.c (.int .i64 4611686018427387904)), none⟩])
 (.ret))
 (.skip)))
 (.seq (.reg [⟨some 28, .mv (.t 5), none⟩,
  ⟨some 29, .call 49 [(.t 28)], none⟩,
  ⟨some 4, .mv (.t 29), none⟩])
 (.ret))))),
 [.tmp 4], true⟩
/-- (*ephemeris/span.Ruler).Down -/
def M20 : MFunc := ⟨.seq (.reg [⟨some 4, .mv (.c (.int .i64 0)), none⟩])
 (.seq (.seq (.reg [⟨some 7, .mv (.t 0), none⟩,
  ⟨some 8, .call 44 [(.t 7)], none⟩])
 (.cond (.t 8)
 (.seq (.reg [⟨some 4, .mv (.c (.int .i64 0)), none⟩])
 (.ret))
 (.skip)))
 (.seq (.regd [(0, ⟨some 10, .mv (.t 1), none⟩),
  (1, ⟨some 11, .call 49 [(.t 10)], none⟩),
  (2, ⟨some 12, .mv (.t 0), none⟩),
  (3, ⟨some 13, .nc (.t 12), none⟩),
  (4, ⟨some 14, .fa 0 (.t 13), none⟩),
  (5, ⟨some 15, .ld none (.t 14), none⟩),
  (6, ⟨some 16, .bin .sub [] (.t 11) (.t 15), none⟩),
  (7, ⟨some 17, .bin .sub [] (.t 16) (.c (.int .i64 1)), none⟩),
  (8, ⟨some 18, .mv (.t 0), none⟩),
  (9, ⟨some 19, .nc (.t 18), none⟩),
  (10, ⟨some 20, .fa 1 (.t 19), none⟩),
  (11, ⟨some 21, .ld none (.t 20), none⟩),
  (12, ⟨some 22, .bin .add [] (.c (.int .i64 1000000000)) (.t 21), none⟩),
  (13, ⟨some 23, .call 50 [(.t 17), (.c (.int .i64 1000000000)), (.t 22)], none⟩),
  (14, ⟨some 9, .mv (.t 23), none⟩),
  (15, ⟨some 24, .ex 0 (.t 9), none⟩),
  (16, ⟨some 25, .ex 1 (.t 9), none⟩),
  (17, ⟨some 5, .mv (.t 24), none⟩),
  (18, ⟨some 6, .mv (.t 25), none⟩)] [(5, 1), (11, 1)])
 (.seq (.reg [⟨some 26, .mv (.t 5), none⟩,
  ⟨some 27, .call 49 [(.t 26)], none⟩,
  ⟨some 4, .mv (.t 27), none⟩])
 (.ret)))),
 [.tmp 4], true⟩
/-- (*ephemeris/ephemerisref19.Ruler).Of -/
def M21 : MFunc := ⟨.seq (.reg [⟨some 12, .al (.ints .i64 [0, 0, 0]), none⟩,
  ⟨some 13, .mv (.c (.int .i64 0)), none⟩])
 (.seq (.seq (.reg [⟨some 16, .mv (.t 1), none⟩,
  ⟨some 17, .mv (.t 2), none⟩,
  ⟨some 18, .mv (.t 3), none⟩,
  ⟨some 19, .mv (.t 4), none⟩,
  ⟨some 20, .mv (.t 5), none⟩,
  ⟨some 21, .bsl (.ints .i64 [0]) 5 1 [(0, 1, (.t 16)), (1, 1, (.t 17)), (2, 1, (.t 18)), (3, 1, (.t 19)), (4, 1, (.t 20))], none⟩,
  ⟨some 22, .call 51 [(.t 21)], none⟩,
  ⟨some 23, .un .not (.t 22), none⟩,
  ⟨some 24, .mv (.t 23), none⟩,
  ⟨some 25, .mv (.t 2), some (24, false)⟩,
  ⟨some 26, .mv (.t 1), some (24, false)⟩,
  ⟨some 27, .bin .lss [] (.t 25) (.t 26), some (24, false)⟩,
  ⟨some 28, .pick (.t 24) (.c (.bool true)) (.t 27), none⟩])
 (.cond (.t 28)
 (.seq (.reg [⟨some 29, .bld [(.int .i64 0), (.int .i64 0), (.int .i64 0)] [], none⟩,
  ⟨none, .st 3 (.t 12) (.t 29), none⟩,
  ⟨some 13, .mv (.c (.int .i64 1)), none⟩])
 (.ret))
 (.skip)))
 (.seq (.reg [⟨some 30, .mv (.t 4), none⟩,
  ⟨some 31, .mv (.t 5), none⟩,
  ⟨some 32, .un .neg (.t 31), none⟩,
  ⟨some 33, .bsl (.ints .i64 [0]) 2 1 [(0, 1, (.t 30)), (1, 1, (.t 32))], none⟩,
  ⟨some 34, .call 52 [(.t 33)], none⟩,
  ⟨some 14, .mv (.t 34), none⟩])
 (.seq (.reg [⟨some 35, .mv (.t 3), none⟩,
  ⟨some 36, .mv (.t 5), none⟩,
  ⟨some 37, .mv (.t 0), none⟩,
  ⟨some 38, .mv (.t 2), none⟩,
  ⟨some 39, .mv (.t 1), none⟩,
  ⟨some 40, .bin .sub [] (.t 38) (.t 39), none⟩,
  ⟨some 41, .call 22 [(.t 37), (.t 40)], none⟩,
  ⟨some 42, .bsl (.ints .i64 [0]) 4 1 [(0, 1, (.t 35)), (1, 1, (.t 36)), (2, 1, (.c (.int .i64 1))), (3, 1, (.t 41))], none⟩,
  ⟨some 43, .call 52 [(.t 42)], none⟩,
  ⟨some 15, .mv (.t 43), none⟩])
 (.seq (.seq (.reg [⟨some 44, .mv (.t 14), none⟩,
  ⟨some 45, .mv (.t 15), none⟩,
  ⟨some 46, .bin .gtr [] (.t 44) (.t 45), none⟩])
 (.cond (.t 46)
 (.seq (.reg [⟨some 47, .bld [(.int .i64 0), (.int .i64 0), (.int .i64 0)] [], none⟩,
  ⟨none, .st 3 (.t 12) (.t 47), none⟩,
  ⟨some 13, .mv (.c (.int .i64 30)), none⟩])
 (.ret))
 (.skip)))
 (.seq (.reg [⟨some 48, .mv (.t 2), none⟩,
  ⟨some 49, .mv (.t 14), none⟩,
  ⟨some 50, .mv (.t 15), none⟩,
  ⟨some 51, .bld [(.int .i64 0), (.int .i64 0), (.int .i64 0)] [(0, 1, (.t 48)), (1, 1, (.t 49)), (2, 1, (.t 50))], none⟩,
  ⟨none, .st 3 (.t 12) (.t 51), none⟩,
  ⟨some 13, .mv (.c (.int .i64 0)), none⟩])
 (.ret)))))),
 [.cell 12 (some 3), .tmp 13], true⟩
/-- (*ephemeris/ephemerisref19.Ruler).Up -/
def M22 : MFunc := ⟨.seq (.reg [⟨some 4, .mv (.c (.int .i64 0)), none⟩])
 (.seq (.regd [(0, ⟨some 5, .mv (.t 1), none⟩),
  (1, ⟨some 6, .call 54 [(.t 5)], none⟩),
  (2, ⟨some 7, .mv (.t 0), none⟩),
  (3, ⟨some 8, .nc (.t 7), none⟩),
  (4, ⟨some 9, .fa 0 (.t 8), none⟩),
  (5, ⟨some 10, .ld none (.t 9), none⟩),
  (6, ⟨some 11, .bin .add [] (.t 6) (.t 10), none⟩),
  (7, ⟨some 12, .bin .add [] (.t 11) (.c (.int .i64 1)), none⟩),
  (8, ⟨some 13, .mv (.t 0), none⟩),
  (9, ⟨some 14, .nc (.t 13), none⟩),
  (10, ⟨some 15, .fa 1 (.t 14), none⟩),
  (11, ⟨some 16, .ld none (.t 15), none⟩),
  (12, ⟨some 17, .bin .sub [] (.c (.int .i64 1000000000)) (.t 16), none⟩),
  (13, ⟨some 18, .call 53 [(.t 12), (.t 17), (.c (.bool true))], none⟩),
  (14, ⟨some 4, .mv (.t 18), none⟩)] [(5, 1), (11, 1)])
 (.ret)),
 [.tmp 4], true⟩
/-- (*ephemeris/ephemerisref19.Ruler).Down -/
def M23 : MFunc := ⟨.seq (.reg [⟨some 4, .mv (.c (.int .i64 0)), none⟩])
 (.seq (.regd [(0, ⟨some 5, .mv (.t 1), none⟩),
  (1, ⟨some 6, .call 54 [(.t 5)], none⟩),
  (2, ⟨some 7, .mv (.t 0), none⟩),
  (3, ⟨some 8, .nc (.t 7), none⟩),
  (4, ⟨some 9, .fa 0 (.t 8), none⟩),
  (5, ⟨some 10, .ld none (.t 9), none⟩),
  (6, ⟨some 11, .bin .sub [] (.t 6) (.t 10), none⟩),
  (7, ⟨some 12, .bin .sub [] (.t 11) (.c (.int .i64 1)), none⟩),
  (8, ⟨some 13, .mv (.t 0), none⟩),
  (9, ⟨some 14, .nc (.t 13), none⟩),
  (10, ⟨some 15, .fa 1 (.t 14), none⟩),
  (11, ⟨some 16, .ld none (.t 15), none⟩),
  (12, ⟨some 17, .bin .add [] (.c (.int .i64 1000000000)) (.t 16), none⟩),
  (13, ⟨some 18, .call 53 [(.t 12), (.t 17), (.c (.bool false))], none⟩),
  (14, ⟨some 4, .mv (.t 18), none⟩)] [(5, 1), (11, 1)])
 (.ret)),
 [.tmp 4], true⟩
/-- ephemeris/span.Width -/
def M24 : MFunc := ⟨.seq (.reg [⟨some 1, .bx (some .i64) 3 (.t 0), none⟩,
  ⟨some 2, .mv (.c (.int .i64 0)), none⟩])
 (.seq (.seq (.reg [⟨some 3, .ld (some 3) (.t 1), none⟩,
  ⟨some 4, .call 28 [(.t 3)], none⟩,
  ⟨some 5, .un .not (.t 4), none⟩])
 (.cond (.t 5)
 (.seq (.reg [⟨some 2, .mv (.c (.int .i64 0)), none⟩])
 (.ret))
 (.skip)))
 (.seq (.reg [⟨some 6, .fa 2 (.t 1), none⟩,
  ⟨some 7, .ld none (.t 6), none⟩,
  ⟨some 8, .fa 1 (.t 1), none⟩,
  ⟨some 9, .ld none (.t 8), none⟩,
  ⟨some 10, .bin .sub [] (.t 7) (.t 9), none⟩,
  ⟨some 2, .mv (.t 10), none⟩])
 (.ret))),
 [.tmp 2], true⟩
/-- ephemeris/ephemerislaw19.within -/
def M25 : MFunc := ⟨.seq (.reg [⟨some 4, .mv (.c (.int .i64 0)), none⟩])
 (.seq (.reg [⟨some 5, .mv (.t 0), none⟩,
  ⟨some 6, .mv (.t 1), none⟩,
  ⟨some 7, .bin .add [] (.t 6) (.c (.int .i64 1)), none⟩,
  ⟨some 8, .bin .rem [] (.t 5) (.t 7), none⟩,
  ⟨some 4, .mv (.t 8), none⟩])
 (.ret)),
 [.tmp 4], true⟩
/-- ephemeris/ephemerislaw19.SpanSound_1 -/
def M26 : MFunc := ⟨.seq (.reg [⟨some 6, .mv (.c (.int .i64 0)), none⟩])
 (.seq (.regd [(0, ⟨some 7, .mv (.t 0), none⟩),
  (1, ⟨some 8, .ld none (.t 2), none⟩),
  (2, ⟨some 9, .call 27 [(.t 7), (.t 8)], none⟩),
  (3, ⟨some 10, .mv (.t 1), none⟩),
  (4, ⟨some 11, .ld none (.t 3), none⟩),
  (5, ⟨some 12, .ci .u64 (.t 11), none⟩),
  (6, ⟨some 13, .bin .rem [] (.t 10) (.t 12), none⟩),
  (7, ⟨some 14, .ci .i64 (.t 13), none⟩),
  (8, ⟨some 15, .bin .sub [] (.t 9) (.t 14), none⟩),
  (9, ⟨some 16, .mnx true [(.t 15), (.c (.int .i64 0))], none⟩),
  (10, ⟨some 6, .mv (.t 16), none⟩)] [(4, 2)])
 (.ret)),
 [.tmp 6], true⟩
/-- ephemeris/ephemerislaw19.counted -/
def M27 : MFunc := ⟨.seq (.reg [⟨some 4, .mv (.c (.int .i64 0)), none⟩])
 (.seq (.reg [⟨some 10, .mv (.t 0), none⟩,
  ⟨some 11, .ci .u64 (.t 10), none⟩,
  ⟨some 12, .mv (.t 1), none⟩,
  ⟨some 13, .bin .add [] (.c (.int .i64 1000000000)) (.t 12), none⟩,
  ⟨some 14, .ci .u64 (.t 13), none⟩,
  ⟨some 15, .call 55 [(.t 11), (.t 14)], none⟩,
  ⟨some 9, .mv (.t 15), none⟩,
  ⟨some 16, .ex 0 (.t 9), none⟩,
  ⟨some 17, .ex 1 (.t 9), none⟩,
  ⟨some 5, .mv (.t 16), none⟩,
  ⟨some 6, .mv (.t 17), none⟩])
 (.seq (.reg [⟨some 19, .mv (.t 5), none⟩,
  ⟨some 20, .mv (.t 6), none⟩,
  ⟨some 21, .call 56 [(.t 19), (.t 20), (.c (.int .u64 1000000000))], none⟩,
  ⟨some 18, .mv (.t 21), none⟩,
  ⟨some 22, .ex 0 (.t 18), none⟩,
  ⟨some 23, .ex 1 (.t 18), none⟩,
  ⟨some 7, .mv (.t 22), none⟩,
  ⟨some 8, .mv (.t 23), none⟩])
 (.seq (.reg [⟨some 24, .mv (.t 7), none⟩,
  ⟨some 25, .ci .i64 (.t 24), none⟩,
  ⟨some 4, .mv (.t 25), none⟩])
 (.ret)))),
 [.tmp 4], true⟩
/-- ephemeris/span.May -/
def M28 : MFunc := ⟨.seq (.reg [⟨some 1, .bx (some .i64) 3 (.t 0), none⟩,
  ⟨some 2, .mv (.c (.bool false)), none⟩])
 (.seq (.reg [⟨some 3, .fa 0 (.t 1), none⟩,
  ⟨some 4, .ld none (.t 3), none⟩,
  ⟨some 5, .fa 1 (.t 1), none⟩,
  ⟨some 6, .ld none (.t 5), none⟩,
  ⟨some 7, .fa 2 (.t 1), none⟩,
  ⟨some 8, .ld none (.t 7), none⟩,
  ⟨some 9, .bsl (.ints .i64 [0]) 3 1 [(0, 1, (.t 4)), (1, 1, (.t 6)), (2, 1, (.t 8))], none⟩,
  ⟨some 10, .call 45 [(.t 9)], none⟩,
  ⟨some 11, .mv (.t 10), none⟩,
  ⟨some 12, .fa 1 (.t 1), some (11, true)⟩,
  ⟨some 13, .ld none (.t 12), some (11, true)⟩,
  ⟨some 14, .fa 2 (.t 1), some (11, true)⟩,
  ⟨some 15, .ld none (.t 14), some (11, true)⟩,
  ⟨some 16, .bin .leq [] (.t 13) (.t 15), some (11, true)⟩,
  ⟨some 17, .pick (.t 11) (.t 16) (.c (.bool false)), none⟩,
  ⟨some 2, .mv (.t 17), none⟩])
 (.ret)),
 [.tmp 2], true⟩
/-- ephemeris/span.Has -/
def M29 : MFunc := ⟨.seq (.reg [⟨some 2, .bx (some .i64) 3 (.t 0), none⟩,
  ⟨some 4, .mv (.c (.bool false)), none⟩])
 (.seq (.reg [⟨some 5, .ld (some 3) (.t 2), none⟩,
  ⟨some 6, .call 28 [(.t 5)], none⟩,
  ⟨some 7, .mv (.t 6), none⟩,
  ⟨some 8, .mv (.t 1), some (7, true)⟩,
  ⟨some 9, .fa 1 (.t 2), some (7, true)⟩,
  ⟨some 10, .ld none (.t 9), some (7, true)⟩,
  ⟨some 11, .bin .geq [] (.t 8) (.t 10), some (7, true)⟩,
  ⟨some 12, .pick (.t 7) (.t 11) (.c (.bool false)), none⟩,
  ⟨some 13, .mv (.t 12), none⟩,
  ⟨some 14, .mv (.t 1), some (13, true)⟩,
  ⟨some 15, .fa 2 (.t 2), some (13, true)⟩,
  ⟨some 16, .ld none (.t 15), some (13, true)⟩,
  ⟨some 17, .bin .leq [] (.t 14) (.t 16), some (13, true)⟩,
  ⟨some 18, .pick (.t 13) (.t 17) (.c (.bool false)), none⟩,
  ⟨some 4, .mv (.t 18), none⟩])
 (.ret)),
 [.tmp 4], true⟩
/-- (*ephemeris/span.Ruler).Age -/
def M30 : MFunc := ⟨.seq (.reg [⟨some 4, .bx (some .i64) 3 (.t 1), none⟩,
  ⟨some 6, .al (.ints .i64 [0, 0, 0]), none⟩,
  ⟨some 7, .mv (.c (.int .i64 0)), none⟩])
 (.seq (.block 0 [0, 2, 4, 6]
 (.seq (.reg [⟨some 10, .mv (.t 0), none⟩,
  ⟨some 11, .call 44 [(.t 10)], none⟩,
  ⟨some 9, .mv (.t 11), none⟩])
 (.cond (.t 9)
 (.seq (.reg [⟨some 12, .bld [(.int .i64 0), (.int .i64 0), (.int .i64 0)] [], none⟩,
  ⟨none, .st 3 (.t 6) (.t 12), none⟩,
  ⟨some 7, .mv (.c (.int .i64 2)), none⟩])
 (.ret))
 (.seq (.reg [⟨some 14, .ld (some 3) (.t 4), none⟩,
  ⟨some 15, .call 28 [(.t 14)], none⟩,
  ⟨some 16, .un .not (.t 15), none⟩,
  ⟨some 17, .mv (.t 16), none⟩,
  ⟨some 18, .mv (.t 2), some (17, false)⟩,
  ⟨some 19, .fa 0 (.t 4), some (17, false)⟩,
  ⟨some 20, .ld none (.t 19), some (17, false)⟩,
  ⟨some 21, .bin .lss [] (.t 18) (.t 20), some (17, false)⟩,
  ⟨some 22, .pick (.t 17) (.c (.bool true)) (.t 21), none⟩,
  ⟨some 23, .mv (.t 22), none⟩,
  ⟨some 24, .mv (.t 2), some (23, false)⟩,
  ⟨some 25, .bin .gtr [] (.t 24) (.c (.int .i64 4611686018427387904)), some (23, false)⟩,
  ⟨some 26, .pick (.t 23) (.c (.bool true)) (.t 25), none⟩,
  ⟨some 13, .mv (.t 26), none⟩])
 (.cond (.t 13)
 (.seq (.reg [⟨some 27, .bld [(.int .i64 0), (.int .i64 0), (.int .i64 0)] [], none⟩,
  ⟨none, .st 3 (.t 6) (.t 27), none⟩,
  ⟨some 7, .mv (.c (.int .i64 1)), none⟩])
 (.ret))
 (.skip))))))
 (.seq (.reg [⟨some 28, .mv (.t 2), none⟩,
  ⟨some 29, .fa 0 (.t 4), none⟩,
  ⟨some 30, .ld none (.t 29), none⟩,
  ⟨some 31, .bin .sub [] (.t 28) (.t 30), none⟩,
  ⟨some 8, .mv (.t 31), none⟩])
 (.seq (.regd [(0, ⟨some 32, .mv (.t 2), none⟩),
  (1, ⟨some 33, .fa 1 (.t 4), none⟩),
  (2, ⟨some 34, .ld none (.t 33), none⟩),
  (3, ⟨some 35, .mv (.t 0), none⟩),
  (4, ⟨some 36, .mv (.t 8), none⟩),
  (5, ⟨some 37, .call 20 [(.t 35), (.t 36)], none⟩),
  (6, ⟨some 38, .bld [(.int .i64 0), (.int .i64 0)] [(0, 1, (.t 34)), (1, 1, (.t 37))], none⟩),
  (7, ⟨some 39, .fa 2 (.t 4), none⟩),
  (8, ⟨some 40, .ld none (.t 39), none⟩),
  (9, ⟨some 41, .mv (.t 0), none⟩),
  (10, ⟨some 42, .mv (.t 8), none⟩),
  (11, ⟨some 43, .call 19 [(.t 41), (.t 42)], none⟩),
  (12, ⟨some 44, .bld [(.int .i64 0), (.int .i64 0)] [(0, 1, (.t 40)), (1, 1, (.t 43))], none⟩),
  (13, ⟨some 45, .bld [(.int .i64 0), (.int .i64 0), (.int .i64 0), (.int .i64 0)] [(0, 2, (.t 38)), (2, 2, (.t 44))], none⟩),
  (14, ⟨some 46, .call 46 [(.t 32), (.t 45)], none⟩),
  (15, ⟨none, .st 3 (.t 6) (.t 46), none⟩),
  (16, ⟨some 7, .mv (.c (.int .i64 0)), none⟩)] [(2, 5), (2, 11), (8, 5), (8, 11)])
 (.ret)))),
 [.cell 6 (some 3), .tmp 7], true⟩
/-- ephemeris/span.Mid -/
def M31 : MFunc := ⟨.seq (.reg [⟨some 1, .bx (some .i64) 3 (.t 0), none⟩,
  ⟨some 2, .mv (.c (.int .i64 0)), none⟩])
 (.seq (.seq (.reg [⟨some 3, .ld (some 3) (.t 1), none⟩,
  ⟨some 4, .call 28 [(.t 3)], none⟩,
  ⟨some 5, .un .not (.t 4), none⟩])
 (.cond (.t 5)
 (.seq (.reg [⟨some 2, .mv (.c (.int .i64 0)), none⟩])
 (.ret))
 (.skip)))
 (.seq (.regd [(0, ⟨some 6, .fa 1 (.t 1), none⟩),
  (1, ⟨some 7, .ld none (.t 6), none⟩),
  (2, ⟨some 8, .ld (some 3) (.t 1), none⟩),
  (3, ⟨some 9, .call 24 [(.t 8)], none⟩),
  (4, ⟨some 10, .bin .quo [] (.t 9) (.c (.int .i64 2)), none⟩),
  (5, ⟨some 11, .bin .add [] (.t 7) (.t 10), none⟩),
  (6, ⟨some 2, .mv (.t 11), none⟩)] [(1, 3)])
 (.ret))),
 [.tmp 2], true⟩
/-- ephemeris/ephemerislaw19.SpanMeets_1 -/
def M32 : MFunc := ⟨.seq (.reg [⟨some 1, .bx (some .u64) 2 (.t 0), none⟩,
  ⟨some 2, .al (.ints .i64 [0, 0, 0]), none⟩])
 (.seq (.regd [(0, ⟨some 5, .ia (some 2) 1 (.t 1) (.c (.int .i64 0)), none⟩),
  (1, ⟨some 6, .ld none (.t 5), none⟩),
  (2, ⟨some 7, .bin .rem [] (.t 6) (.c (.int .u64 2305843009213693952)), none⟩),
  (3, ⟨some 8, .ci .i64 (.t 7), none⟩),
  (4, ⟨some 9, .ia (some 2) 1 (.t 1) (.c (.int .i64 1)), none⟩),
  (5, ⟨some 10, .ld none (.t 9), none⟩),
  (6, ⟨some 11, .bin .rem [] (.t 10) (.c (.int .u64 2305843009213693952)), none⟩),
  (7, ⟨some 12, .ci .i64 (.t 11), none⟩),
  (8, ⟨some 3, .mv (.t 8), none⟩),
  (9, ⟨some 4, .mv (.t 12), none⟩)] [])
 (.seq (.reg [⟨some 13, .mv (.t 3), none⟩,
  ⟨some 14, .mv (.t 4), none⟩,
  ⟨some 15, .mnx false [(.t 13), (.t 14)], none⟩,
  ⟨some 16, .mv (.t 3), none⟩,
  ⟨some 17, .mv (.t 4), none⟩,
  ⟨some 18, .mnx true [(.t 16), (.t 17)], none⟩,
  ⟨some 19, .bld [(.int .i64 0), (.int .i64 0), (.int .i64 0)] [(0, 1, (.c (.int .i64 7))), (1, 1, (.t 15)), (2, 1, (.t 18))], none⟩,
  ⟨none, .st 3 (.t 2) (.t 19), none⟩])
 (.ret))),
 [.cell 2 (some 3)], true⟩
/-- ephemeris/span.Meet -/
def M33 : MFunc := ⟨.seq (.reg [⟨some 2, .bx (some .i64) 3 (.t 0), none⟩,
  ⟨some 3, .bx (some .i64) 3 (.t 1), none⟩,
  ⟨some 4, .al (.ints .i64 [0, 0, 0]), none⟩,
  ⟨some 5, .mv (.c (.bool false)), none⟩])
 (.seq (.seq (.reg [⟨some 7, .ld (some 3) (.t 2), none⟩,
  ⟨some 8, .call 28 [(.t 7)], none⟩,
  ⟨some 9, .un .not (.t 8), none⟩,
  ⟨some 10, .mv (.t 9), none⟩,
  ⟨some 11, .ld (some 3) (.t 3), some (10, false)⟩,
  ⟨some 12, .call 28 [(.t 11)], some (10, false)⟩,
  ⟨some 13, .un .not (.t 12), some (10, false)⟩,
  ⟨some 14, .pick (.t 10) (.c (.bool true)) (.t 13), none⟩,
  ⟨some 15, .mv (.t 14), none⟩,
  ⟨some 16, .fa 0 (.t 2), some (15, false)⟩,
  ⟨some 17, .ld none (.t 16), some (15, false)⟩,
  ⟨some 18, .fa 0 (.t 3), some (15, false)⟩,
  ⟨some 19, .ld none (.t 18), some (15, false)⟩,
  ⟨some 20, .bin .neq [] (.t 17) (.t 19), some (15, false)⟩,
  ⟨some 21, .pick (.t 15) (.c (.bool true)) (.t 20), none⟩])
 (.cond (.t 21)
 (.seq (.reg [⟨some 22, .bld [(.int .i64 0), (.int .i64 0), (.int .i64 0)] [], none⟩,
  ⟨none, .st 3 (.t 4) (.t 22), none⟩,
  ⟨some 5, .mv (.c (.bool false)), none⟩])
 (.ret))
 (.skip)))
 (.seq (.reg [⟨some 23, .fa 0 (.t 2), none⟩,
  ⟨some 24, .ld none (.t 23), none⟩,
  ⟨some 25, .fa 1 (.t 2), none⟩,
  ⟨some 26, .ld none (.t 25), none⟩,
  ⟨some 27, .fa 1 (.t 3), none⟩,
  ⟨some 28, .ld none (.t 27), none⟩,
  ⟨some 29, .mnx true [(.t 26), (.t 28)], none⟩,
  ⟨some 30, .fa 2 (.t 2), none⟩,
  ⟨some 31, .ld none (.t 30), none⟩,
  ⟨some 32, .fa 2 (.t 3), none⟩,
  ⟨some 33, .ld none (.t 32), none⟩,
  ⟨some 34, .mnx false [(.t 31), (.t 33)], none⟩,
  ⟨some 35, .bld [(.int .i64 0), (.int .i64 0), (.int .i64 0)] [(0, 1, (.t 24)), (1, 1, (.t 29)), (2, 1, (.t 34))], none⟩,
  ⟨some 6, .al (.ints .i64 [0, 0, 0]), none⟩,
  ⟨none, .st 3 (.t 6) (.t 35), none⟩])
 (.seq (.seq (.reg [⟨some 36, .fa 1 (.t 6), none⟩,
  ⟨some 37, .ld none (.t 36), none⟩,
  ⟨some 38, .fa 2 (.t 6), none⟩,
  ⟨some 39, .ld none (.t 38), none⟩,
  ⟨some 40, .bin .gtr [] (.t 37) (.t 39), none⟩])
 (.cond (.t 40)
 (.seq (.reg [⟨some 41, .bld [(.int .i64 0), (.int .i64 0), (.int .i64 0)] [], none⟩,
  ⟨none, .st 3 (.t 4) (.t 41), none⟩,
  ⟨some 5, .mv (.c (.bool false)), none⟩])
 (.ret))
 (.skip)))
 (.seq (.reg [⟨some 42, .ld (some 3) (.t 6), none⟩,
  ⟨none, .st 3 (.t 4) (.t 42), none⟩,
  ⟨some 5, .mv (.c (.bool true)), none⟩])
 (.ret))))),
 [.cell 4 (some 3), .tmp 5], true⟩
/-- ephemeris/ephemerisref24.Mean -/
def M35 : MFunc := ⟨.seq (.reg [⟨some 3, .bx (some .i64) 3 (.t 1), none⟩,
  ⟨some 4, .mv (.c (.int .i64 0)), none⟩,
  ⟨some 5, .mv (.c (.int .i64 0)), none⟩,
  ⟨some 6, .mv (.c (.int .i64 0)), none⟩])
 (.seq (.seq (.reg [⟨some 18, .mv (.t 0), none⟩,
  ⟨some 19, .call 63 [(.t 18)], none⟩,
  ⟨some 20, .un .not (.t 19), none⟩,
  ⟨some 21, .mv (.t 20), none⟩,
  ⟨some 22, .ld (some 3) (.t 3), some (21, false)⟩,
  ⟨some 23, .call 42 [(.t 22)], some (21, false)⟩,
  ⟨some 24, .un .not (.t 23), some (21, false)⟩,
  ⟨some 25, .pick (.t 21) (.c (.bool true)) (.t 24), none⟩])
 (.cond (.t 25)
 (.seq (.reg [⟨some 4, .mv (.c (.int .i64 0)), none⟩,
  ⟨some 5, .mv (.c (.int .i64 0)), none⟩,
  ⟨some 6, .mv (.c (.int .i64 1)), none⟩])
 (.ret))
 (.skip)))
 (.seq (.seq (.reg [⟨some 26, .mv (.t 0), none⟩,
  ⟨some 27, .len none (.t 26), none⟩,
  ⟨some 28, .bin .eql [] (.t 27) (.c (.int .i64 0)), none⟩])
 (.cond (.t 28)
 (.seq (.reg [⟨some 4, .mv (.c (.int .i64 0)), none⟩,
  ⟨some 5, .mv (.c (.int .i64 0)), none⟩,
  ⟨some 6, .mv (.c (.int .i64 33)), none⟩])
 (.ret))
 (.skip)))
 (.seq (.reg [⟨some 29, .mv (.t 0), none⟩,
  ⟨some 30, .call 37 [(.t 29)], none⟩,
  ⟨some 7, .mv (.t 30), none⟩])
 (.seq (.reg [⟨some 8, .mv (.c (.int .i64 0)), none⟩])
 (.seq (.seq (.reg [⟨some 9, .mv (.c (.int .i64 0)), none⟩])
 (.block 0 [0, 3, 7, 8]
 (.loop [0, 3, 7, 8, 9]
 (.seq (.seq (.reg [⟨some 31, .mv (.t 9), none⟩,
  ⟨some 32, .mv (.t 7), none⟩,
  ⟨some 33, .len none (.t 32), none⟩,
  ⟨some 34, .bin .lss [] (.t 31) (.t 33), none⟩])
 (.cond (.t 34)
 (.skip)
 (.exit 0)))
 (.seq (.block 1 [0, 3, 7, 8, 9]
 (.reg [⟨some 37, .mv (.t 8), none⟩,
  ⟨some 38, .mv (.t 7), none⟩,
  ⟨some 39, .mv (.t 9), none⟩,
  ⟨some 40, .ia none 1 (.t 38) (.t 39), none⟩,
  ⟨some 41, .ld none (.t 40), none⟩,
  ⟨some 42, .bin .add [] (.t 37) (.t 41), none⟩,
  ⟨some 8, .mv (.t 42), none⟩]))
 (.reg [⟨some 35, .mv (.t 9), none⟩,
  ⟨some 36, .bin .add [] (.t 35) (.c (.int .i64 1)), none⟩,
  ⟨some 9, .mv (.t 36), none⟩]))))))
 (.seq (.reg [⟨some 43, .fa 1 (.t 3), none⟩,
  ⟨some 44, .ld none (.t 43), none⟩,
  ⟨some 10, .mv (.t 44), none⟩])
 (.seq (.seq (.reg [⟨some 11, .mv (.c (.int .i64 0)), none⟩])
 (.block 2 [0, 3, 7, 8, 10]
 (.loop [0, 3, 7, 8, 10, 11]
 (.seq (.seq (.reg [⟨some 45, .mv (.t 11), none⟩,
  ⟨some 46, .mv (.t 0), none⟩,
  ⟨some 47, .len none (.t 46), none⟩,
  ⟨some 48, .bin .lss [] (.t 45) (.t 47), none⟩])
 (.cond (.t 48)
 (.skip)
 (.exit 2)))
 (.seq (.block 3 [0, 3, 7, 8, 10, 11]
 (.seq (.regd [(0, ⟨some 52, .mv (.t 0), none⟩),
  (1, ⟨some 53, .mv (.t 11), none⟩),
  (2, ⟨some 54, .ia none 3 (.t 52) (.t 53), none⟩),
  (3, ⟨some 55, .ld (some 3) (.t 54), none⟩),
  (4, ⟨some 56, .ld (some 3) (.t 3), none⟩),
  (5, ⟨some 57, .call 65 [(.t 55), (.t 56)], none⟩),
  (6, ⟨some 58, .fa 1 (.t 3), none⟩),
  (7, ⟨some 59, .ld none (.t 58), none⟩),
  (8, ⟨some 60, .bin .sub [] (.t 57) (.t 59), none⟩),
  (9, ⟨some 61, .mv (.t 7), none⟩),
  (10, ⟨some 62, .mv (.t 11), none⟩),
  (11, ⟨some 63, .ia none 1 (.t 61) (.t 62), none⟩),
  (12, ⟨some 64, .ld none (.t 63), none⟩),
  (13, ⟨some 65, .mv (.t 8), none⟩),
  (14, ⟨some 66, .call 64 [(.t 60), (.t 64), (.t 65), (.c (.bool false))], none⟩),
  (15, ⟨some 51, .mv (.t 66), none⟩),
  (16, ⟨some 67, .ex 0 (.t 51), none⟩),
  (17, ⟨some 68, .ex 1 (.t 51), none⟩),
  (18, ⟨some 12, .mv (.t 67), none⟩),
  (19, ⟨some 13, .mv (.t 68), none⟩)] [(7, 5), (12, 5)])
 (.reg [⟨some 69, .mv (.t 10), none⟩,
  ⟨some 70, .mv (.t 12), none⟩,
  ⟨some 71, .bin .add [] (.t 69) (.t 70), none⟩,
  ⟨some 10, .mv (.t 71), none⟩])))
 (.reg [⟨some 49, .mv (.t 11), none⟩,
  ⟨some 50, .bin .add [] (.t 49) (.c (.int .i64 1)), none⟩,
  ⟨some 11, .mv (.t 50), none⟩]))))))
 (.seq (.reg [⟨some 14, .mv (.c (.int .i64 0)), none⟩])
 (.seq (.seq (.reg [⟨some 15, .mv (.c (.int .i64 0)), none⟩])
 (.block 4 [10, 14]
 (.loop [0, 3, 7, 8, 10, 14, 15]
 (.seq (.seq (.reg [⟨some 72, .mv (.t 15), none⟩,
  ⟨some 73, .mv (.t 0), none⟩,
  ⟨some 74, .len none (.t 73), none⟩,
  ⟨some 75, .bin .lss [] (.t 72) (.t 74), none⟩])
 (.cond (.t 75)
 (.skip)
 (.exit 4)))
 (.seq (.block 5 [0, 3, 7, 8, 10, 14, 15]
 (.seq (.regd [(0, ⟨some 79, .mv (.t 0), none⟩),
  (1, ⟨some 80, .mv (.t 15), none⟩),
  (2, ⟨some 81, .ia none 3 (.t 79) (.t 80), none⟩),
  (3, ⟨some 82, .ld (some 3) (.t 81), none⟩),
  (4, ⟨some 83, .ld (some 3) (.t 3), none⟩),
  (5, ⟨some 84, .call 65 [(.t 82), (.t 83)], none⟩),
  (6, ⟨some 85, .mv (.t 10), none⟩),
  (7, ⟨some 86, .bin .sub [] (.t 84) (.t 85), none⟩),
  (8, ⟨some 87, .call 66 [(.t 86)], none⟩),
  (9, ⟨some 88, .mv (.t 7), none⟩),
  (10, ⟨some 89, .mv (.t 15), none⟩),
  (11, ⟨some 90, .ia none 1 (.t 88) (.t 89), none⟩),
  (12, ⟨some 91, .ld none (.t 90), none⟩),
  (13, ⟨some 92, .mv (.t 8), none⟩),
  (14, ⟨some 93, .call 64 [(.t 87), (.t 91), (.t 92), (.c (.bool true))], none⟩),
  (15, ⟨some 78, .mv (.t 93), none⟩),
  (16, ⟨some 94, .ex 0 (.t 78), none⟩),
  (17, ⟨some 95, .ex 1 (.t 78), none⟩),
  (18, ⟨some 16, .mv (.t 94), none⟩),
  (19, ⟨some 17, .mv (.t 95), none⟩)] [(12, 5), (12, 8)])
 (.reg [⟨some 96, .mv (.t 14), none⟩,
  ⟨some 97, .mv (.t 16), none⟩,
  ⟨some 98, .bin .add [] (.t 96) (.t 97), none⟩,
  ⟨some 14, .mv (.t 98), none⟩])))
 (.reg [⟨some 76, .mv (.t 15), none⟩,
  ⟨some 77, .bin .add [] (.t 76) (.c (.int .i64 1)), none⟩,
  ⟨some 15, .mv (.t 77), none⟩]))))))
 (.seq (.reg [⟨some 99, .mv (.t 10), none⟩,
  ⟨some 100, .mv (.t 14), none⟩,
  ⟨some 4, .mv (.t 99), none⟩,
  ⟨some 5, .mv (.t 100), none⟩,
  ⟨some 6, .mv (.c (.int .i64 0)), none⟩])
 (.ret))))))))))),
 [.tmp 4, .tmp 5, .tmp 6], true⟩
/-- ephemeris/combine.Weights -/
def M36 : MFunc := ⟨.seq (.reg [⟨some 2, .mv (.c .nils), none⟩])
 (.seq (.seq (.reg [⟨some 11, .mv (.t 0), none⟩,
  ⟨some 12, .len none (.t 11), none⟩,
  ⟨some 13, .bin .gtr [] (.t 12) (.c (.int .i64 16)), none⟩,
  ⟨some 14, .mv (.t 13), none⟩,
  ⟨some 15, .mv (.t 0), some (14, false)⟩,
  ⟨some 16, .call 57 [(.t 15)], some (14, false)⟩,
  ⟨some 17, .un .not (.t 16), some (14, false)⟩,
  ⟨some 18, .pick (.t 14) (.c (.bool true)) (.t 17), none⟩])
 (.cond (.t 18)
 (.seq (.reg [⟨some 2, .mv (.c .nils), none⟩])
 (.ret))
 (.skip)))
 (.seq (.reg [⟨some 3, .mv (.c (.int .i64 0)), none⟩])
 (.seq (.seq (.reg [⟨some 19, .mv (.t 0), none⟩,
  ⟨some 20, .len none (.t 19), none⟩,
  ⟨some 21, .mv (.c (.int .i64 0)), none⟩])
 (.block 0 [0, 3]
 (.loop [0, 3, 19, 20, 21]
 (.seq (.reg [⟨some 22, .bin .lss [] (.t 21) (.t 20), none⟩])
 (.seq (.cond (.t 22)
 (.skip)
 (.exit 0))
 (.seq (.block 1 [0, 3, 19, 20, 21]
 (.seq (.reg [⟨some 23, .ia none 3 (.t 19) (.t 21), none⟩,
  ⟨some 24, .ld (some 3) (.t 23), none⟩,
  ⟨some 5, .al (.ints .i64 [0, 0, 0]), none⟩,
  ⟨none, .st 3 (.t 5) (.t 24), none⟩])
 (.reg [⟨some 25, .mv (.t 3), none⟩,
  ⟨some 26, .ld (some 3) (.t 5), none⟩,
  ⟨some 27, .call 67 [(.t 26)], none⟩,
  ⟨some 28, .mnx true [(.t 25), (.t 27)], none⟩,
  ⟨some 3, .mv (.t 28), none⟩])))
 (.reg [⟨some 29, .bin .add [] (.t 21) (.c (.int .i64 1)), none⟩,
  ⟨some 21, .mv (.t 29), none⟩])))))))
 (.seq (.reg [⟨some 6, .mv (.c .nils), none⟩])
 (.seq (.seq (.reg [⟨some 30, .mv (.t 0), none⟩,
  ⟨some 31, .len none (.t 30), none⟩,
  ⟨some 32, .mv (.c (.int .i64 0)), none⟩])
 (.block 2 [6]
 (.loop [3, 6, 30, 31, 32]
 (.seq (.reg [⟨some 33, .bin .lss [] (.t 32) (.t 31), none⟩])
 (.seq (.cond (.t 33)
 (.skip)
 (.exit 2))
 (.seq (.block 3 [3, 6, 30, 31, 32]
 (.seq (.reg [⟨some 34, .ia none 3 (.t 30) (.t 32), none⟩,
  ⟨some 35, .ld (some 3) (.t 34), none⟩,
  ⟨some 8, .al (.ints .i64 [0, 0, 0]), none⟩,
  ⟨none, .st 3 (.t 8) (.t 35), none⟩])
 (.seq (.reg [⟨some 37, .mv (.t 3), none⟩,
  ⟨some 38, .ld (some 3) (.t 8), none⟩,
  ⟨some 39, .call 67 [(.t 38)], none⟩,
  ⟨some 40, .call 50 [(.t 37), (.c (.int .i64 1024)), (.t 39)], none⟩,
  ⟨some 36, .mv (.t 40), none⟩,
  ⟨some 41, .ex 0 (.t 36), none⟩,
  ⟨some 42, .ex 1 (.t 36), none⟩,
  ⟨some 9, .mv (.t 41), none⟩,
  ⟨some 10, .mv (.t 42), none⟩])
 (.seq (.seq (.reg [⟨some 43, .mv (.t 10), none⟩,
  ⟨some 44, .bin .neq [] (.t 43) (.c (.int .i64 0)), none⟩])
 (.cond (.t 44)
 (.reg [⟨some 9, .mv (.c (.int .i64 1048576)), none⟩])
 (.skip)))
 (.reg [⟨some 45, .mv (.t 6), none⟩,
  ⟨some 46, .mv (.t 9), none⟩,
  ⟨some 47, .mnx false [(.t 46), (.c (.int .i64 1048576))], none⟩,
  ⟨some 48, .bsl (.ints .i64 [0]) 1 1 [(0, 1, (.t 47))], none⟩,
  ⟨some 49, .app (.ints .i64 [0]) 8 (.t 45) (.t 48), none⟩,
  ⟨some 6, .mv (.t 49), none⟩])))))
 (.reg [⟨some 50, .bin .add [] (.t 32) (.c (.int .i64 1)), none⟩,
  ⟨some 32, .mv (.t 50), none⟩])))))))
 (.seq (.reg [⟨some 51, .mv (.t 6), none⟩,
  ⟨some 2, .mv (.t 51), none⟩])
 (.ret))))))),
 [.tmp 2], true⟩
/-- ephemeris/ephemerisref24.Weights -/
def M37 : MFunc := ⟨.seq (.reg [⟨some 2, .mv (.c .nils), none⟩])
 (.seq (.seq (.reg [⟨some 9, .mv (.t 0), none⟩,
  ⟨some 10, .call 63 [(.t 9)], none⟩,
  ⟨some 11, .un .not (.t 10), none⟩])
 (.cond (.t 11)
 (.seq (.reg [⟨some 2, .mv (.c .nils), none⟩])
 (.ret))
 (.skip)))
 (.seq (.reg [⟨some 3, .mv (.c (.int .i64 1)), none⟩])
 (.seq (.seq (.reg [⟨some 4, .mv (.c (.int .i64 0)), none⟩])
 (.block 0 [0, 3]
 (.loop [0, 3, 4]
 (.seq (.seq (.reg [⟨some 12, .mv (.t 4), none⟩,
  ⟨some 13, .mv (.t 0), none⟩,
  ⟨some 14, .len none (.t 13), none⟩,
  ⟨some 15, .bin .lss [] (.t 12) (.t 14), none⟩])
 (.cond (.t 15)
 (.skip)
 (.exit 0)))
 (.seq (.block 1 [0, 3, 4]
 (.seq (.regd [(0, ⟨some 18, .mv (.t 0), none⟩),
  (1, ⟨some 19, .mv (.t 4), none⟩),
  (2, ⟨some 20, .ia none 3 (.t 18) (.t 19), none⟩),
  (3, ⟨some 21, .fa 2 (.t 20), none⟩),
  (4, ⟨some 22, .ld none (.t 21), none⟩),
  (5, ⟨some 23, .mv (.t 0), none⟩),
  (6, ⟨some 24, .mv (.t 4), none⟩),
  (7, ⟨some 25, .ia none 3 (.t 23) (.t 24), none⟩),
  (8, ⟨some 26, .fa 1 (.t 25), none⟩),
  (9, ⟨some 27, .ld none (.t 26), none⟩),
  (10, ⟨some 28, .bin .sub [] (.t 22) (.t 27), none⟩),
  (11, ⟨some 29, .bin .add [] (.t 28) (.c (.int .i64 1)), none⟩),
  (12, ⟨some 30, .mv (.t 3), none⟩),
  (13, ⟨some 31, .bin .gtr [] (.t 29) (.t 30), none⟩)] [])
 (.cond (.t 31)
 (.regd [(0, ⟨some 32, .mv (.t 0), none⟩),
  (1, ⟨some 33, .mv (.t 4), none⟩),
  (2, ⟨some 34, .ia none 3 (.t 32) (.t 33), none⟩),
  (3, ⟨some 35, .fa 2 (.t 34), none⟩),
  (4, ⟨some 36, .ld none (.t 35), none⟩),
  (5, ⟨some 37, .mv (.t 0), none⟩),
  (6, ⟨some 38, .mv (.t 4), none⟩),
  (7, ⟨some 39, .ia none 3 (.t 37) (.t 38), none⟩),
  (8, ⟨some 40, .fa 1 (.t 39), none⟩),
  (9, ⟨some 41, .ld none (.t 40), none⟩),
  (10, ⟨some 42, .bin .sub [] (.t 36) (.t 41), none⟩),
  (11, ⟨some 43, .bin .add [] (.t 42) (.c (.int .i64 1)), none⟩),
  (12, ⟨some 3, .mv (.t 43), none⟩)] [])
 (.skip))))
 (.reg [⟨some 16, .mv (.t 4), none⟩,
  ⟨some 17, .bin .add [] (.t 16) (.c (.int .i64 1)), none⟩,
  ⟨some 4, .mv (.t 17), none⟩]))))))
 (.seq (.reg [⟨some 5, .mv (.c .nils), none⟩])
 (.seq (.seq (.reg [⟨some 6, .mv (.c (.int .i64 0)), none⟩])
 (.block 2 [5]
 (.loop [0, 3, 5, 6]
 (.seq (.seq (.reg [⟨some 44, .mv (.t 6), none⟩,
  ⟨some 45, .mv (.t 0), none⟩,
  ⟨some 46, .len none (.t 45), none⟩,
  ⟨some 47, .bin .lss [] (.t 44) (.t 46), none⟩])
 (.cond (.t 47)
 (.skip)
 (.exit 2)))
 (.seq (.block 3 [0, 3, 5, 6]
 (.seq (.regd [(0, ⟨some 51, .mv (.t 3), none⟩),
  (1, ⟨some 52, .mv (.t 0), none⟩),
  (2, ⟨some 53, .mv (.t 6), none⟩),
  (3, ⟨some 54, .ia none 3 (.t 52) (.t 53), none⟩),
  (4, ⟨some 55, .fa 2 (.t 54), none⟩),
  (5, ⟨some 56, .ld none (.t 55), none⟩),
  (6, ⟨some 57, .mv (.t 0), none⟩),
  (7, ⟨some 58, .mv (.t 6), none⟩),
  (8, ⟨some 59, .ia none 3 (.t 57) (.t 58), none⟩),
  (9, ⟨some 60, .fa 1 (.t 59), none⟩),
  (10, ⟨some 61, .ld none (.t 60), none⟩),
  (11, ⟨some 62, .bin .sub [] (.t 56) (.t 61), none⟩),
  (12, ⟨some 63, .bin .add [] (.t 62) (.c (.int .i64 1)), none⟩),
  (13, ⟨some 64, .call 64 [(.t 51), (.c (.int .i64 1024)), (.t 63), (.c (.bool false))], none⟩),
  (14, ⟨some 50, .mv (.t 64), none⟩),
  (15, ⟨some 65, .ex 0 (.t 50), none⟩),
  (16, ⟨some 66, .ex 1 (.t 50), none⟩),
  (17, ⟨some 7, .mv (.t 65), none⟩),
  (18, ⟨some 8, .mv (.t 66), none⟩)] [])
 (.seq (.seq (.reg [⟨some 67, .mv (.t 8), none⟩,
  ⟨some 68, .bin .neq [] (.t 67) (.c (.int .i64 0)), none⟩,
  ⟨some 69, .mv (.t 68), none⟩,
  ⟨some 70, .mv (.t 7), some (69, false)⟩,
  ⟨some 71, .bin .gtr [] (.t 70) (.c (.int .i64 1048576)), some (69, false)⟩,
  ⟨some 72, .pick (.t 69) (.c (.bool true)) (.t 71), none⟩])
 (.cond (.t 72)
 (.reg [⟨some 7, .mv (.c (.int .i64 1048576)), none⟩])
 (.skip)))
 (.reg [⟨some 73, .mv (.t 5), none⟩,
  ⟨some 74, .mv (.t 7), none⟩,
  ⟨some 75, .bsl (.ints .i64 [0]) 1 1 [(0, 1, (.t 74))], none⟩,
  ⟨some 76, .app (.ints .i64 [0]) 8 (.t 73) (.t 75), none⟩,
  ⟨some 5, .mv (.t 76), none⟩]))))
 (.reg [⟨some 48, .mv (.t 6), none⟩,
  ⟨some 49, .bin .add [] (.t 48) (.c (.int .i64 1)), none⟩,
  ⟨some 6, .mv (.t 49), none⟩]))))))
 (.seq (.reg [⟨some 77, .mv (.t 5), none⟩,
  ⟨some 2, .mv (.t 77), none⟩])
 (.ret))))))),
 [.tmp 2], true⟩
/-- ephemeris/ephemerislaw24.alive -/
def M38 : MFunc := ⟨.seq (.reg [⟨some 0, .mv (.c (.bool false)), none⟩])
 (.seq (.reg [⟨some 8, .bld [(.int .i64 0), (.int .i64 0), (.int .i64 0)] [(1, 1, (.c (.int .i64 0))), (2, 1, (.c (.int .i64 9)))], none⟩,
  ⟨some 9, .bld [(.int .i64 0), (.int .i64 0), (.int .i64 0)] [(1, 1, (.c (.int .i64 0))), (2, 1, (.c (.int .i64 4)))], none⟩,
  ⟨some 10, .bsl (.ints .i64 [0, 0, 0]) 2 3 [(0, 3, (.t 8)), (3, 3, (.t 9))], none⟩,
  ⟨some 11, .call 36 [(.t 10)], none⟩,
  ⟨some 1, .mv (.t 11), none⟩])
 (.seq (.reg [⟨some 13, .bld [(.int .i64 0), (.int .i64 0), (.int .i64 0)] [(1, 1, (.c (.int .i64 0))), (2, 1, (.c (.int .i64 10)))], none⟩,
  ⟨some 14, .bld [(.int .i64 0), (.int .i64 0), (.int .i64 0)] [(1, 1, (.c (.int .i64 20))), (2, 1, (.c (.int .i64 30)))], none⟩,
  ⟨some 15, .bsl (.ints .i64 [0, 0, 0]) 2 3 [(0, 3, (.t 13)), (3, 3, (.t 14))], none⟩,
  ⟨some 16, .bld [(.int .i64 0), (.int .i64 0), (.int .i64 0)] [(1, 1, (.c (.int .i64 0))), (2, 1, (.c (.int .i64 30)))], none⟩,
  ⟨some 17, .call 34 [(.t 15), (.t 16)], none⟩,
  ⟨some 12, .mv (.t 17), none⟩,
  ⟨some 18, .ex 0 (.t 12), none⟩,
  ⟨some 19, .ex 1 (.t 12), none⟩,
  ⟨some 20, .ex 2 (.t 12), none⟩,
  ⟨some 2, .mv (.t 18), none⟩,
  ⟨some 3, .mv (.t 19), none⟩,
  ⟨some 4, .mv (.t 20), none⟩])
 (.seq (.reg [⟨some 22, .bld [(.int .i64 0), (.int .i64 0), (.int .i64 0)] [(1, 1, (.c (.int .i64 0))), (2, 1, (.c (.int .i64 10)))], none⟩,
  ⟨some 23, .bsl (.ints .i64 [0, 0, 0]) 1 3 [(0, 3, (.t 22))], none⟩,
  ⟨some 24, .bld [(.int .i64 0), (.int .i64 0), (.int .i64 0)] [(1, 1, (.c (.int .i64 7))), (2, 1, (.c (.int .i64 9)))], none⟩,
  ⟨some 25, .call 34 [(.t 23), (.t 24)], none⟩,
  ⟨some 21, .mv (.t 25), none⟩,
  ⟨some 26, .ex 0 (.t 21), none⟩,
  ⟨some 27, .ex 1 (.t 21), none⟩,
  ⟨some 28, .ex 2 (.t 21), none⟩,
  ⟨some 5, .mv (.t 26), none⟩,
  ⟨some 6, .mv (.t 27), none⟩,
  ⟨some 7, .mv (.t 28), none⟩])
 (.seq (.reg [⟨some 29, .mv (.t 1), none⟩,
  ⟨some 30, .len none (.t 29), none⟩,
  ⟨some 31, .bin .eql [] (.t 30) (.c (.int .i64 2)), none⟩,
  ⟨some 32, .mv (.t 31), none⟩,
  ⟨some 33, .mv (.t 1), some (32, true)⟩,
  ⟨some 34, .ia none 1 (.t 33) (.c (.int .i64 0)), some (32, true)⟩,
  ⟨some 35, .ld none (.t 34), some (32, true)⟩,
  ⟨some 36, .bin .eql [] (.t 35) (.c (.int .i64 1024)), some (32, true)⟩,
  ⟨some 37, .pick (.t 32) (.t 36) (.c (.bool false)), none⟩,
  ⟨some 38, .mv (.t 37), none⟩,
  ⟨some 39, .mv (.t 1), some (38, true)⟩,
  ⟨some 40, .ia none 1 (.t 39) (.c (.int .i64 1)), some (38, true)⟩,
  ⟨some 41, .ld none (.t 40), some (38, true)⟩,
  ⟨some 42, .bin .eql [] (.t 41) (.c (.int .i64 2048)), some (38, true)⟩,
  ⟨some 43, .pick (.t 38) (.t 42) (.c (.bool false)), none⟩,
  ⟨some 44, .mv (.t 43), none⟩,
  ⟨some 45, .mv (.t 4), some (44, true)⟩,
  ⟨some 46, .bin .eql [] (.t 45) (.c (.int .i64 0)), some (44, true)⟩,
  ⟨some 47, .pick (.t 44) (.t 46) (.c (.bool false)), none⟩,
  ⟨some 48, .mv (.t 47), none⟩,
  ⟨some 49, .mv (.t 2), some (48, true)⟩,
  ⟨some 50, .bin .eql [] (.t 49) (.c (.int .i64 14)), some (48, true)⟩,
  ⟨some 51, .pick (.t 48) (.t 50) (.c (.bool false)), none⟩,
  ⟨some 52, .mv (.t 51), none⟩,
  ⟨some 53, .mv (.t 3), some (52, true)⟩,
  ⟨some 54, .bin .eql [] (.t 53) (.c (.int .i64 11)), some (52, true)⟩,
  ⟨some 55, .pick (.t 52) (.t 54) (.c (.bool false)), none⟩,
  ⟨some 56, .mv (.t 55), none⟩,
  ⟨some 57, .mv (.t 7), some (56, true)⟩,
  ⟨some 58, .bin .eql [] (.t 57) (.c (.int .i64 0)), some (56, true)⟩,
  ⟨some 59, .pick (.t 56) (.t 58) (.c (.bool false)), none⟩,
  ⟨some 60, .mv (.t 59), none⟩,
  ⟨some 61, .mv (.t 5), some (60, true)⟩,
  ⟨some 62, .bin .eql [] (.t 61) (.c (.int .i64 7)), some (60, true)⟩,
  ⟨some 63, .pick (.t 60) (.t 62) (.c (.bool false)), none⟩,
  ⟨some 64, .mv (.t 63), none⟩,
  ⟨some 65, .mv (.t 6), some (64, true)⟩,
  ⟨some 66, .bin .eql [] (.t 65) (.c (.int .i64 0)), some (64, true)⟩,
  ⟨some 67, .pick (.t 64) (.t 66) (.c (.bool false)), none⟩,
  ⟨some 0, .mv (.t 67), none⟩])
 (.ret))))),
 [.tmp 0], true⟩
/-- ephemeris/ephemerislaw24.fit -/
def M39 : MFunc := ⟨.seq (.reg [⟨some 2, .mv (.c .nils), none⟩])
 (.seq (.reg [⟨some 3, .mv (.c .nils), none⟩])
 (.seq (.seq (.reg [⟨some 4, .mv (.c (.int .i64 0)), none⟩])
 (.block 0 [3]
 (.loop [0, 3, 4]
 (.seq (.seq (.reg [⟨some 6, .mv (.t 4), none⟩,
  ⟨some 7, .mv (.t 0), none⟩,
  ⟨some 8, .len none (.t 7), none⟩,
  ⟨some 9, .bin .lss [] (.t 6) (.t 8), none⟩,
  ⟨some 10, .mv (.t 9), none⟩,
  ⟨some 11, .mv (.t 4), some (10, true)⟩,
  ⟨some 12, .bin .lss [] (.t 11) (.c (.int .i64 16)), some (10, true)⟩,
  ⟨some 13, .pick (.t 10) (.t 12) (.c (.bool false)), none⟩])
 (.cond (.t 13)
 (.skip)
 (.exit 0)))
 (.seq (.block 1 [0, 3, 4]
 (.seq (.regd [(0, ⟨some 16, .mv (.t 0), none⟩),
  (1, ⟨some 17, .mv (.t 4), none⟩),
  (2, ⟨some 18, .ia none 3 (.t 16) (.t 17), none⟩),
  (3, ⟨some 19, .fa 1 (.t 18), none⟩),
  (4, ⟨some 20, .ld none (.t 19), none⟩),
  (5, ⟨some 21, .bin .and [] (.t 20) (.c (.int .i64 1152921504606846975)), none⟩),
  (6, ⟨some 22, .mv (.t 0), none⟩),
  (7, ⟨some 23, .mv (.t 4), none⟩),
  (8, ⟨some 24, .ia none 3 (.t 22) (.t 23), none⟩),
  (9, ⟨some 25, .fa 2 (.t 24), none⟩),
  (10, ⟨some 26, .ld none (.t 25), none⟩),
  (11, ⟨some 27, .bin .and [] (.t 26) (.c (.int .i64 1152921504606846975)), none⟩),
  (12, ⟨some 28, .bld [(.int .i64 0), (.int .i64 0), (.int .i64 0)] [(1, 1, (.t 21)), (2, 1, (.t 27))], none⟩),
  (13, ⟨some 5, .al (.ints .i64 [0, 0, 0]), none⟩),
  (14, ⟨none, .st 3 (.t 5) (.t 28), none⟩)] [])
 (.seq (.seq (.reg [⟨some 29, .fa 1 (.t 5), none⟩,
  ⟨some 30, .ld none (.t 29), none⟩,
  ⟨some 31, .fa 2 (.t 5), none⟩,
  ⟨some 32, .ld none (.t 31), none⟩,
  ⟨some 33, .bin .gtr [] (.t 30) (.t 32), none⟩])
 (.cond (.t 33)
 (.reg [⟨some 34, .fa 2 (.t 5), none⟩,
  ⟨some 35, .ld none (.t 34), none⟩,
  ⟨some 36, .fa 1 (.t 5), none⟩,
  ⟨some 37, .ld none (.t 36), none⟩,
  ⟨some 38, .fa 1 (.t 5), none⟩,
  ⟨none, .st 1 (.t 38) (.t 35), none⟩,
  ⟨some 39, .fa 2 (.t 5), none⟩,
  ⟨none, .st 1 (.t 39) (.t 37), none⟩])
 (.skip)))
 (.reg [⟨some 40, .mv (.t 3), none⟩,
  ⟨some 41, .ld (some 3) (.t 5), none⟩,
  ⟨some 42, .bsl (.ints .i64 [0, 0, 0]) 1 3 [(0, 3, (.t 41))], none⟩,
  ⟨some 43, .app (.ints .i64 [0, 0, 0]) 24 (.t 40) (.t 42), none⟩,
  ⟨some 3, .mv (.t 43), none⟩]))))
 (.reg [⟨some 14, .mv (.t 4), none⟩,
  ⟨some 15, .bin .add [] (.t 14) (.c (.int .i64 1)), none⟩,
  ⟨some 4, .mv (.t 15), none⟩]))))))
 (.seq (.reg [⟨some 44, .mv (.t 3), none⟩,
  ⟨some 2, .mv (.t 44), none⟩])
 (.ret)))),
 [.tmp 2], true⟩
/-- (*ephemeris/ephemerisref19.Ruler).Age -/
def M40 : MFunc := ⟨.seq (.reg [⟨some 4, .bx (some .i64) 3 (.t 1), none⟩,
  ⟨some 6, .al (.ints .i64 [0, 0, 0]), none⟩,
  ⟨some 7, .mv (.c (.int .i64 0)), none⟩])
 (.seq (.seq (.reg [⟨some 8, .ld (some 3) (.t 4), none⟩,
  ⟨some 9, .call 42 [(.t 8)], none⟩,
  ⟨some 10, .un .not (.t 9), none⟩,
  ⟨some 11, .mv (.t 10), none⟩,
  ⟨some 12, .mv (.t 2), some (11, false)⟩,
  ⟨some 13, .fa 0 (.t 4), some (11, false)⟩,
  ⟨some 14, .ld none (.t 13), some (11, false)⟩,
  ⟨some 15, .bin .lss [] (.t 12) (.t 14), some (11, false)⟩,
  ⟨some 16, .pick (.t 11) (.c (.bool true)) (.t 15), none⟩,
  ⟨some 17, .mv (.t 16), none⟩,
  ⟨some 18, .mv (.t 2), some (17, false)⟩,
  ⟨some 19, .bin .gtr [] (.t 18) (.c (.int .i64 4611686018427387904)), some (17, false)⟩,
  ⟨some 20, .pick (.t 17) (.c (.bool true)) (.t 19), none⟩])
 (.cond (.t 20)
 (.seq (.reg [⟨some 21, .bld [(.int .i64 0), (.int .i64 0), (.int .i64 0)] [], none⟩,
  ⟨none, .st 3 (.t 6) (.t 21), none⟩,
  ⟨some 7, .mv (.c (.int .i64 1)), none⟩])
 (.ret))
 (.skip)))
 (.seq (.regd [(0, ⟨some 22, .mv (.t 2), none⟩),
  (1, ⟨some 23, .fa 1 (.t 4), none⟩),
  (2, ⟨some 24, .ld none (.t 23), none⟩),
  (3, ⟨some 25, .mv (.t 0), none⟩),
  (4, ⟨some 26, .mv (.t 2), none⟩),
  (5, ⟨some 27, .fa 0 (.t 4), none⟩),
  (6, ⟨some 28, .ld none (.t 27), none⟩),
  (7, ⟨some 29, .bin .sub [] (.t 26) (.t 28), none⟩),
  (8, ⟨some 30, .call 23 [(.t 25), (.t 29)], none⟩),
  (11, ⟨some 33, .fa 2 (.t 4), none⟩),
  (12, ⟨some 34, .ld none (.t 33), none⟩),
  (13, ⟨some 35, .mv (.t 0), none⟩),
  (14, ⟨some 36, .mv (.t 2), none⟩),
  (15, ⟨some 37, .fa 0 (.t 4), none⟩),
  (16, ⟨some 38, .ld none (.t 37), none⟩),
  (17, ⟨some 39, .bin .sub [] (.t 36) (.t 38), none⟩),
  (9, ⟨some 31, .bsl (.ints .i64 [0]) 2 1 [(0, 1, (.t 24)), (1, 1, (.t 30))], none⟩),
  (10, ⟨some 32, .call 52 [(.t 31)], none⟩),
  (18, ⟨some 40, .call 22 [(.t 35), (.t 39)], none⟩),
  (19, ⟨some 41, .bsl (.ints .i64 [0]) 2 1 [(0, 1, (.t 34)), (1, 1, (.t 40))], none⟩),
  (20, ⟨some 42, .call 52 [(.t 41)], none⟩),
  (21, ⟨some 43, .bld [(.int .i64 0), (.int .i64 0), (.int .i64 0)] [(0, 1, (.t 22)), (1, 1, (.t 32)), (2, 1, (.t 42))], none⟩),
  (22, ⟨none, .st 3 (.t 6) (.t 43), none⟩),
  (23, ⟨some 7, .mv (.c (.int .i64 0)), none⟩)] [(2, 8), (10, 8), (10, 17), (10, 18), (14, 8), (14, 17)])
 (.ret))),
 [.cell 6 (some 3), .tmp 7], true⟩
/-- ephemeris/ephemerisref19.Meet -/
def M41 : MFunc := ⟨.seq (.reg [⟨some 2, .bx (some .i64) 3 (.t 0), none⟩,
  ⟨some 3, .bx (some .i64) 3 (.t 1), none⟩,
  ⟨some 4, .al (.ints .i64 [0, 0, 0]), none⟩,
  ⟨some 5, .mv (.c (.bool false)), none⟩])
 (.seq (.seq (.reg [⟨some 7, .ld (some 3) (.t 2), none⟩,
  ⟨some 8, .call 42 [(.t 7)], none⟩,
  ⟨some 9, .un .not (.t 8), none⟩,
  ⟨some 10, .mv (.t 9), none⟩,
  ⟨some 11, .ld (some 3) (.t 3), some (10, false)⟩,
  ⟨some 12, .call 42 [(.t 11)], some (10, false)⟩,
  ⟨some 13, .un .not (.t 12), some (10, false)⟩,
  ⟨some 14, .pick (.t 10) (.c (.bool true)) (.t 13), none⟩,
  ⟨some 15, .mv (.t 14), none⟩,
  ⟨some 16, .fa 0 (.t 2), some (15, false)⟩,
  ⟨some 17, .ld none (.t 16), some (15, false)⟩,
  ⟨some 18, .fa 0 (.t 3), some (15, false)⟩,
  ⟨some 19, .ld none (.t 18), some (15, false)⟩,
  ⟨some 20, .bin .neq [] (.t 17) (.t 19), some (15, false)⟩,
  ⟨some 21, .pick (.t 15) (.c (.bool true)) (.t 20), none⟩,
  ⟨some 22, .mv (.t 21), none⟩,
  ⟨some 23, .fa 2 (.t 2), some (22, false)⟩,
  ⟨some 24, .ld none (.t 23), some (22, false)⟩,
  ⟨some 25, .fa 1 (.t 3), some (22, false)⟩,
  ⟨some 26, .ld none (.t 25), some (22, false)⟩,
  ⟨some 27, .bin .lss [] (.t 24) (.t 26), some (22, false)⟩,
  ⟨some 28, .pick (.t 22) (.c (.bool true)) (.t 27), none⟩,
  ⟨some 29, .mv (.t 28), none⟩,
  ⟨some 30, .fa 2 (.t 3), some (29, false)⟩,
  ⟨some 31, .ld none (.t 30), some (29, false)⟩,
  ⟨some 32, .fa 1 (.t 2), some (29, false)⟩,
  ⟨some 33, .ld none (.t 32), some (29, false)⟩,
  ⟨some 34, .bin .lss [] (.t 31) (.t 33), some (29, false)⟩,
  ⟨some 35, .pick (.t 29) (.c (.bool true)) (.t 34), none⟩])
 (.cond (.t 35)
 (.seq (.reg [⟨some 36, .bld [(.int .i64 0), (.int .i64 0), (.int .i64 0)] [], none⟩,
  ⟨none, .st 3 (.t 4) (.t 36), none⟩,
  ⟨some 5, .mv (.c (.bool false)), none⟩])
 (.ret))
 (.skip)))
 (.seq (.reg [⟨some 37, .ld (some 3) (.t 2), none⟩,
  ⟨some 6, .al (.ints .i64 [0, 0, 0]), none⟩,
  ⟨none, .st 3 (.t 6) (.t 37), none⟩])
 (.seq (.seq (.reg [⟨some 38, .fa 1 (.t 3), none⟩,
  ⟨some 39, .ld none (.t 38), none⟩,
  ⟨some 40, .fa 1 (.t 6), none⟩,
  ⟨some 41, .ld none (.t 40), none⟩,
  ⟨some 42, .bin .gtr [] (.t 39) (.t 41), none⟩])
 (.cond (.t 42)
 (.reg [⟨some 43, .fa 1 (.t 3), none⟩,
  ⟨some 44, .ld none (.t 43), none⟩,
  ⟨some 45, .fa 1 (.t 6), none⟩,
  ⟨none, .st 1 (.t 45) (.t 44), none⟩])
 (.skip)))
 (.seq (.seq (.reg [⟨some 46, .fa 2 (.t 3), none⟩,
  ⟨some 47, .ld none (.t 46), none⟩,
  ⟨some 48, .fa 2 (.t 6), none⟩,
  ⟨some 49, .ld none (.t 48), none⟩,
  ⟨some 50, .bin .lss [] (.t 47) (.t 49), none⟩])
 (.cond (.t 50)
 (.reg [⟨some 51, .fa 2 (.t 3), none⟩,
  ⟨some 52, .ld none (.t 51), none⟩,
  ⟨some 53, .fa 2 (.t 6), none⟩,
  ⟨none, .st 1 (.t 53) (.t 52), none⟩])
 (.skip)))
 (.seq (.reg [⟨some 54, .ld (some 3) (.t 6), none⟩,
  ⟨none, .st 3 (.t 4) (.t 54), none⟩,
  ⟨some 5, .mv (.c (.bool true)), none⟩])
 (.ret)))))),
 [.cell 4 (some 3), .tmp 5], true⟩
/-- ephemeris/ephemerisref19.May -/
def M42 : MFunc := ⟨.seq (.reg [⟨some 1, .bx (some .i64) 3 (.t 0), none⟩,
  ⟨some 2, .mv (.c (.bool false)), none⟩])
 (.seq (.reg [⟨some 3, .fa 0 (.t 1), none⟩,
  ⟨some 4, .ld none (.t 3), none⟩,
  ⟨some 5, .fa 1 (.t 1), none⟩,
  ⟨some 6, .ld none (.t 5), none⟩,
  ⟨some 7, .fa 2 (.t 1), none⟩,
  ⟨some 8, .ld none (.t 7), none⟩,
  ⟨some 9, .bsl (.ints .i64 [0]) 3 1 [(0, 1, (.t 4)), (1, 1, (.t 6)), (2, 1, (.t 8))], none⟩,
  ⟨some 10, .call 51 [(.t 9)], none⟩,
  ⟨some 11, .mv (.t 10), none⟩,
  ⟨some 12, .fa 1 (.t 1), some (11, true)⟩,
  ⟨some 13, .ld none (.t 12), some (11, true)⟩,
  ⟨some 14, .fa 2 (.t 1), some (11, true)⟩,
  ⟨some 15, .ld none (.t 14), some (11, true)⟩,
  ⟨some 16, .bin .leq [] (.t 13) (.t 15), some (11, true)⟩,
  ⟨some 17, .pick (.t 11) (.t 16) (.c (.bool false)), none⟩,
  ⟨some 2, .mv (.t 17), none⟩])
 (.ret)),
 [.tmp 2], true⟩
/-- ephemeris/ephemerisref19.Mid -/
def M43 : MFunc := ⟨.seq (.reg [⟨some 1, .bx (some .i64) 3 (.t 0), none⟩,
  ⟨some 2, .mv (.c (.int .i64 0)), none⟩])
 (.seq (.seq (.reg [⟨some 3, .ld (some 3) (.t 1), none⟩,
  ⟨some 4, .call 42 [(.t 3)], none⟩,
  ⟨some 5, .un .not (.t 4), none⟩])
 (.cond (.t 5)
 (.seq (.reg [⟨some 2, .mv (.c (.int .i64 0)), none⟩])
 (.ret))
 (.skip)))
 (.seq (.reg [⟨some 6, .fa 1 (.t 1), none⟩,
  ⟨some 7, .ld none (.t 6), none⟩,
  ⟨some 8, .fa 2 (.t 1), none⟩,
  ⟨some 9, .ld none (.t 8), none⟩,
  ⟨some 10, .fa 1 (.t 1), none⟩,
  ⟨some 11, .ld none (.t 10), none⟩,
  ⟨some 12, .bin .sub [] (.t 9) (.t 11), none⟩,
  ⟨some 13, .bin .quo [] (.t 12) (.c (.int .i64 2)), none⟩,
  ⟨some 14, .bin .add [] (.t 7) (.t 13), none⟩,
  ⟨some 2, .mv (.t 14), none⟩])
 (.ret))),
 [.tmp 2], true⟩
/-- (*ephemeris/span.Ruler).none -/
def M44 : MFunc := ⟨.seq (.reg [⟨some 2, .mv (.c (.bool false)), none⟩])
 (.seq (.reg [⟨some 3, .mv (.t 0), none⟩,
  ⟨some 4, .bin .eql [2] (.t 3) (.c .nilp), none⟩,
  ⟨some 5, .mv (.t 4), none⟩,
  ⟨some 6, .mv (.t 0), some (5, false)⟩,
  ⟨some 7, .nc (.t 6), some (5, false)⟩,
  ⟨some 8, .fa 2 (.t 7), some (5, false)⟩,
  ⟨some 9, .ld none (.t 8), some (5, false)⟩,
  ⟨some 10, .un .not (.t 9), some (5, false)⟩,
  ⟨some 11, .pick (.t 5) (.c (.bool true)) (.t 10), none⟩,
  ⟨some 2, .mv (.t 11), none⟩])
 (.ret)),
 [.tmp 2], true⟩
/-- ephemeris/span.times -/
def M45 : MFunc := ⟨.seq (.reg [⟨some 2, .mv (.c (.bool false)), none⟩])
 (.seq (.seq (.reg [⟨some 5, .mv (.t 0), none⟩,
  ⟨some 6, .len none (.t 5), none⟩,
  ⟨some 7, .mv (.c (.int .i64 0)), none⟩])
 (.block 0 []
 (.loop [5, 6, 7]
 (.seq (.reg [⟨some 8, .bin .lss [] (.t 7) (.t 6), none⟩])
 (.seq (.cond (.t 8)
 (.skip)
 (.exit 0))
 (.seq (.block 1 [5, 6, 7]
 (.seq (.reg [⟨some 9, .ia none 1 (.t 5) (.t 7), none⟩,
  ⟨some 10, .ld none (.t 9), none⟩,
  ⟨some 4, .mv (.t 10), none⟩])
 (.seq (.reg [⟨some 11, .mv (.t 4), none⟩,
  ⟨some 12, .mv (.t 4), none⟩,
  ⟨some 13, .call 49 [(.t 12)], none⟩,
  ⟨some 14, .bin .neq [] (.t 11) (.t 13), none⟩])
 (.cond (.t 14)
 (.seq (.reg [⟨some 2, .mv (.c (.bool false)), none⟩])
 (.ret))
 (.skip)))))
 (.reg [⟨some 15, .bin .add [] (.t 7) (.c (.int .i64 1)), none⟩,
  ⟨some 7, .mv (.t 15), none⟩])))))))
 (.seq (.reg [⟨some 2, .mv (.c (.bool true)), none⟩])
 (.ret))),
 [.tmp 2], true⟩
/-- ephemeris/span.ends -/
def M46 : MFunc := ⟨.seq (.reg [⟨some 3, .bx (some .i64) 4 (.t 1), none⟩,
  ⟨some 4, .al (.ints .i64 [0, 0, 0]), none⟩])
 (.seq (.reg [⟨some 6, .mf 68 [(.t 3)], none⟩,
  ⟨some 5, .mv (.t 6), none⟩])
 (.seq (.reg [⟨some 7, .mv (.t 0), none⟩,
  ⟨some 8, .mv (.t 5), none⟩,
  ⟨some 9, .calld (.t 8) [(.c (.int .i64 0))], none⟩,
  ⟨some 10, .mv (.t 5), none⟩,
  ⟨some 11, .calld (.t 10) [(.c (.int .i64 1))], none⟩,
  ⟨some 12, .bld [(.int .i64 0), (.int .i64 0), (.int .i64 0)] [(0, 1, (.t 7)), (1, 1, (.t 9)), (2, 1, (.t 11))], none⟩,
  ⟨none, .st 3 (.t 4) (.t 12), none⟩])
 (.ret))),
 [.cell 4 (some 3)], true⟩
/-- ephemeris/fix.AddSat -/
def M47 : MFunc := ⟨.seq (.reg [⟨some 4, .mv (.c (.int .i64 0)), none⟩])
 (.seq (.reg [⟨some 8, .mv (.t 0), none⟩,
  ⟨some 9, .mv (.t 1), none⟩,
  ⟨some 10, .call 69 [(.t 8), (.t 9)], none⟩,
  ⟨some 7, .mv (.t 10), none⟩,
  ⟨some 11, .ex 0 (.t 7), none⟩,
  ⟨some 12, .ex 1 (.t 7), none⟩,
  ⟨some 5, .mv (.t 11), none⟩,
  ⟨some 6, .mv (.t 12), none⟩])
 (.seq (.reg [⟨some 13, .mv (.t 5), none⟩,
  ⟨some 14, .mv (.t 6), none⟩,
  ⟨some 15, .mv (.t 0), none⟩,
  ⟨some 16, .bin .lss [] (.t 15) (.c (.int .i64 0)), none⟩,
  ⟨some 17, .call 70 [(.t 13), (.t 14), (.t 16)], none⟩,
  ⟨some 4, .mv (.t 17), none⟩])
 (.ret))),
 [.tmp 4], true⟩
/-- ephemeris/fix.MulDivUp -/
def M48 : MFunc := ⟨.seq (.reg [⟨some 6, .mv (.c (.int .i64 0)), none⟩,
  ⟨some 7, .mv (.c (.int .i64 0)), none⟩])
 (.seq (.reg [⟨some 8, .mv (.t 0), none⟩,
  ⟨some 9, .mv (.t 1), none⟩,
  ⟨some 10, .mv (.t 2), none⟩,
  ⟨some 11, .call 71 [(.t 8), (.t 9), (.t 10), (.f 72)], none⟩,
  ⟨some 12, .ex 0 (.t 11), none⟩,
  ⟨some 13, .ex 1 (.t 11), none⟩,
  ⟨some 6, .mv (.t 12), none⟩,
  ⟨some 7, .mv (.t 13), none⟩])
 (.ret)),
 [.tmp 6, .tmp 7], true⟩
/-- ephemeris/span.brought -/
def M49 : MFunc := ⟨.seq (.reg [⟨some 2, .mv (.c (.int .i64 0)), none⟩])
 (.seq (.reg [⟨some 3, .mv (.t 0), none⟩,
  ⟨some 4, .call 73 [(.t 3), (.c (.int .i64 0)), (.c (.int .i64 4611686018427387904))], none⟩,
  ⟨some 2, .mv (.t 4), none⟩])
 (.ret)),
 [.tmp 2], true⟩
/-- ephemeris/fix.MulDiv -/
def M50 : MFunc := ⟨.seq (.reg [⟨some 6, .mv (.c (.int .i64 0)), none⟩,
  ⟨some 7, .mv (.c (.int .i64 0)), none⟩])
 (.seq (.reg [⟨some 8, .mv (.t 0), none⟩,
  ⟨some 9, .mv (.t 1), none⟩,
  ⟨some 10, .mv (.t 2), none⟩,
  ⟨some 11, .call 71 [(.t 8), (.t 9), (.t 10), (.f 74)], none⟩,
  ⟨some 12, .ex 0 (.t 11), none⟩,
  ⟨some 13, .ex 1 (.t 11), none⟩,
  ⟨some 6, .mv (.t 12), none⟩,
  ⟨some 7, .mv (.t 13), none⟩])
 (.ret)),
 [.tmp 6, .tmp 7], true⟩
/-- ephemeris/ephemerisref19.is -/
def M51 : MFunc := ⟨.seq (.reg [⟨some 2, .mv (.c (.bool false)), none⟩])
 (.seq (.seq (.reg [⟨some 3, .mv (.c (.int .i64 0)), none⟩])
 (.block 0 []
 (.loop [0, 3]
 (.seq (.seq (.reg [⟨some 4, .mv (.t 3), none⟩,
  ⟨some 5, .mv (.t 0), none⟩,
  ⟨some 6, .len none (.t 5), none⟩,
  ⟨some 7, .bin .lss [] (.t 4) (.t 6), none⟩])
 (.cond (.t 7)
 (.skip)
 (.exit 0)))
 (.seq (.block 1 [0, 3]
 (.seq (.reg [⟨some 10, .mv (.t 0), none⟩,
  ⟨some 11, .mv (.t 3), none⟩,
  ⟨some 12, .ia none 1 (.t 10) (.t 11), none⟩,
  ⟨some 13, .ld none (.t 12), none⟩,
  ⟨some 14, .bin .lss [] (.t 13) (.c (.int .i64 0)), none⟩,
  ⟨some 15, .mv (.t 14), none⟩,
  ⟨some 16, .mv (.t 0), some (15, false)⟩,
  ⟨some 17, .mv (.t 3), some (15, false)⟩,
  ⟨some 18, .ia none 1 (.t 16) (.t 17), some (15, false)⟩,
  ⟨some 19, .ld none (.t 18), some (15, false)⟩,
  ⟨some 20, .bin .gtr [] (.t 19) (.c (.int .i64 4611686018427387904)), some (15, false)⟩,
  ⟨some 21, .pick (.t 15) (.c (.bool true)) (.t 20), none⟩])
 (.cond (.t 21)
 (.seq (.reg [⟨some 2, .mv (.c (.bool false)), none⟩])
 (.ret))
 (.skip))))
 (.reg [⟨some 8, .mv (.t 3), none⟩,
  ⟨some 9, .bin .add [] (.t 8) (.c (.int .i64 1)), none⟩,
  ⟨some 3, .mv (.t 9), none⟩]))))))
 (.seq (.reg [⟨some 2, .mv (.c (.bool true)), none⟩])
 (.ret))),
 [.tmp 2], true⟩
/-- ephemeris/ephemerisref19.sum -/
def M52 : MFunc := ⟨.seq (.reg [⟨some 2, .mv (.c (.int .i64 0)), none⟩])
 (.seq (.reg [⟨some 7, .bld [(.bool false), .nils] [], none⟩,
  ⟨some 3, .al (.vals [(.bool false), .nils]), none⟩,
  ⟨none, .st 2 (.t 3) (.t 7), none⟩])
 (.seq (.seq (.reg [⟨some 4, .mv (.c (.int .i64 0)), none⟩])
 (.block 0 [3]
 (.loop [0, 3, 4]
 (.seq (.seq (.reg [⟨some 8, .mv (.t 4), none⟩,
  ⟨some 9, .mv (.t 0), none⟩,
  ⟨some 10, .len none (.t 9), none⟩,
  ⟨some 11, .bin .lss [] (.t 8) (.t 10), none⟩])
 (.cond (.t 11)
 (.skip)
 (.exit 0)))
 (.seq (.block 1 [0, 3, 4]
 (.regd [(0, ⟨some 14, .ld (some 2) (.t 3), none⟩),
  (1, ⟨some 15, .mv (.t 0), none⟩),
  (2, ⟨some 16, .mv (.t 4), none⟩),
  (3, ⟨some 17, .ia none 1 (.t 15) (.t 16), none⟩),
  (4, ⟨some 18, .ld none (.t 17), none⟩),
  (5, ⟨some 19, .call 76 [(.t 18)], none⟩),
  (6, ⟨some 20, .call 75 [(.t 14), (.t 19)], none⟩),
  (7, ⟨none, .st 2 (.t 3) (.t 20), none⟩)] [(0, 5)]))
 (.reg [⟨some 12, .mv (.t 4), none⟩,
  ⟨some 13, .bin .add [] (.t 12) (.c (.int .i64 1)), none⟩,
  ⟨some 4, .mv (.t 13), none⟩]))))))
 (.seq (.seq (.reg [⟨some 21, .fa 0 (.t 3), none⟩,
  ⟨some 22, .ld none (.t 21), none⟩])
 (.cond (.t 22)
 (.seq (.reg [⟨some 2, .mv (.c (.int .i64 0)), none⟩])
 (.ret))
 (.skip)))
 (.seq (.reg [⟨some 24, .ld (some 2) (.t 3), none⟩,
  ⟨some 25, .call 77 [(.t 24)], none⟩,
  ⟨some 23, .mv (.t 25), none⟩,
  ⟨some 26, .ex 0 (.t 23), none⟩,
  ⟨some 27, .ex 1 (.t 23), none⟩,
  ⟨some 5, .mv (.t 26), none⟩,
  ⟨some 6, .mv (.t 27), none⟩])
 (.seq (.seq (.reg [⟨some 28, .mv (.t 6), none⟩,
  ⟨some 29, .un .not (.t 28), none⟩])
 (.cond (.t 29)
 (.seq (.reg [⟨some 2, .mv (.c (.int .i64 4611686018427387904)), none⟩])
 (.ret))
 (.skip)))
 (.seq (.reg [⟨some 30, .mv (.t 5), none⟩,
  ⟨some 31, .call 54 [(.t 30)], none⟩,
  ⟨some 2, .mv (.t 31), none⟩])
 (.ret))))))),
 [.tmp 2], true⟩
/-- ephemeris/ephemerisref19.part -/
def M53 : MFunc := ⟨.seq (.reg [⟨some 6, .mv (.c (.int .i64 0)), none⟩])
 (.seq (.seq (.reg [⟨some 9, .mv (.t 0), none⟩,
  ⟨some 10, .bin .leq [] (.t 9) (.c (.int .i64 0)), none⟩])
 (.cond (.t 10)
 (.seq (.reg [⟨some 6, .mv (.c (.int .i64 0)), none⟩])
 (.ret))
 (.skip)))
 (.seq (.reg [⟨some 12, .mv (.t 0), none⟩,
  ⟨some 13, .mv (.t 1), none⟩,
  ⟨some 14, .mv (.t 2), none⟩,
  ⟨some 15, .call 64 [(.t 12), (.c (.int .i64 1000000000)), (.t 13), (.t 14)], none⟩,
  ⟨some 11, .mv (.t 15), none⟩,
  ⟨some 16, .ex 0 (.t 11), none⟩,
  ⟨some 17, .ex 1 (.t 11), none⟩,
  ⟨some 7, .mv (.t 16), none⟩,
  ⟨some 8, .mv (.t 17), none⟩])
 (.seq (.seq (.reg [⟨some 18, .mv (.t 8), none⟩,
  ⟨some 19, .bin .neq [] (.t 18) (.c (.int .i64 0)), none⟩,
  ⟨some 20, .mv (.t 19), none⟩,
  ⟨some 21, .mv (.t 7), some (20, false)⟩,
  ⟨some 22, .bin .gtr [] (.t 21) (.c (.int .i64 4611686018427387904)), some (20, false)⟩,
  ⟨some 23, .pick (.t 20) (.c (.bool true)) (.t 22), none⟩])
 (.cond (.t 23)
 (.seq (.reg [⟨some 6, .mv (.c (.int .i64 4611686018427387904)), none⟩])
 (.ret))
 (.skip)))
 (.seq (.reg [⟨some 24, .mv (.t 7), none⟩,
  ⟨some 6, .mv (.t 24), none⟩])
 (.ret))))),
 [.tmp 6], true⟩
/-- ephemeris/ephemerisref19.Near -/
def M54 : MFunc := ⟨.seq (.reg [⟨some 2, .mv (.c (.int .i64 0)), none⟩])
 (.seq (.seq (.reg [⟨some 3, .mv (.t 0), none⟩,
  ⟨some 4, .bin .lss [] (.t 3) (.c (.int .i64 0)), none⟩])
 (.cond (.t 4)
 (.seq (.reg [⟨some 2, .mv (.c (.int .i64 0)), none⟩])
 (.ret))
 (.skip)))
 (.seq (.seq (.reg [⟨some 5, .mv (.t 0), none⟩,
  ⟨some 6, .bin .gtr [] (.t 5) (.c (.int .i64 4611686018427387904)), none⟩])
 (.cond (.t 6)
 (.seq (.reg [⟨some 2, .mv (.c (.int .i64 4611686018427387904)), none⟩])
 (.ret))
 (.skip)))
 (.seq (.reg [⟨some 7, .mv (.t 0), none⟩,
  ⟨some 2, .mv (.t 7), none⟩])
 (.ret)))),
 [.tmp 2], true⟩
/-- math/bits.Mul64 -/
def M55 : MFunc := ⟨.seq (.reg [⟨some 4, .mv (.c (.int .u64 0)), none⟩,
  ⟨some 5, .mv (.c (.int .u64 0)), none⟩])
 (.seq (.reg [⟨some 14, .mv (.t 0), none⟩,
  ⟨some 15, .bin .and [] (.t 14) (.c (.int .u64 4294967295)), none⟩,
  ⟨some 6, .mv (.t 15), none⟩])
 (.seq (.reg [⟨some 16, .mv (.t 0), none⟩,
  ⟨some 17, .bin .shr [] (.t 16) (.c (.int .u64 32)), none⟩,
  ⟨some 7, .mv (.t 17), none⟩])
 (.seq (.reg [⟨some 18, .mv (.t 1), none⟩,
  ⟨some 19, .bin .and [] (.t 18) (.c (.int .u64 4294967295)), none⟩,
  ⟨some 8, .mv (.t 19), none⟩])
 (.seq (.reg [⟨some 20, .mv (.t 1), none⟩,
  ⟨some 21, .bin .shr [] (.t 20) (.c (.int .u64 32)), none⟩,
  ⟨some 9, .mv (.t 21), none⟩])
 (.seq (.reg [⟨some 22, .mv (.t 6), none⟩,
  ⟨some 23, .mv (.t 8), none⟩,
  ⟨some 24, .bin .mul [] (.t 22) (.t 23), none⟩,
  ⟨some 10, .mv (.t 24), none⟩])
 (.seq (.reg [⟨some 25, .mv (.t 7), none⟩,
  ⟨some 26, .mv (.t 8), none⟩,
  ⟨some 27, .bin .mul [] (.t 25) (.t 26), none⟩,
  ⟨some 28, .mv (.t 10), none⟩,
  ⟨some 29, .bin .shr [] (.t 28) (.c (.int .u64 32)), none⟩,
  ⟨some 30, .bin .add [] (.t 27) (.t 29), none⟩,
  ⟨some 11, .mv (.t 30), none⟩])
 (.seq (.reg [⟨some 31, .mv (.t 11), none⟩,
  ⟨some 32, .bin .and [] (.t 31) (.c (.int .u64 4294967295)), none⟩,
  ⟨some 12, .mv (.t 32), none⟩])
 (.seq (.reg [⟨some 33, .mv (.t 11), none⟩,
  ⟨some 34, .bin .shr [] (.t 33) (.c (.int .u64 32)), none⟩,
  ⟨some 13, .mv (.t 34), none⟩])
 (.seq (.reg [⟨some 35, .mv (.t 12), none⟩,
  ⟨some 36, .mv (.t 6), none⟩,
  ⟨some 37, .mv (.t 9), none⟩,
  ⟨some 38, .bin .mul [] (.t 36) (.t 37), none⟩,
  ⟨some 39, .bin .add [] (.t 35) (.t 38), none⟩,
  ⟨some 12, .mv (.t 39), none⟩])
 (.seq (.reg [⟨some 40, .mv (.t 7), none⟩,
  ⟨some 41, .mv (.t 9), none⟩,
  ⟨some 42, .bin .mul [] (.t 40) (.t 41), none⟩,
  ⟨some 43, .mv (.t 13), none⟩,
  ⟨some 44, .bin .add [] (.t 42) (.t 43), none⟩,
  ⟨some 45, .mv (.t 12), none⟩,
  ⟨some 46, .bin .shr [] (.t 45) (.c (.int .u64 32)), none⟩,
  ⟨some 47, .bin .add [] (.t 44) (.t 46), none⟩,
  ⟨some 4, .mv (.t 47), none⟩])
 (.seq (.reg [⟨some 48, .mv (.t 0), none⟩,
  ⟨some 49, .mv (.t 1), none⟩,
  ⟨some 50, .bin .mul [] (.t 48) (.t 49), none⟩,
  ⟨some 5, .mv (.t 50), none⟩])
 (.ret)))))))))))),
 [.tmp 4, .tmp 5], true⟩
/-- math/bits.Div64 -/
def M56 : MFunc := ⟨.seq (.reg [⟨some 6, .mv (.c (.int .u64 0)), none⟩,
  ⟨some 7, .mv (.c (.int .u64 0)), none⟩])
 (.seq (.seq (.reg [⟨some 19, .mv (.t 2), none⟩,
  ⟨some 20, .bin .eql [] (.t 19) (.c (.int .u64 0)), none⟩])
 (.cond (.t 20)
 (.reg [⟨some 21, .ld none (.g 0), none⟩,
  ⟨none, .bad, none⟩])
 (.skip)))
 (.seq (.seq (.reg [⟨some 22, .mv (.t 2), none⟩,
  ⟨some 23, .mv (.t 0), none⟩,
  ⟨some 24, .bin .leq [] (.t 22) (.t 23), none⟩])
 (.cond (.t 24)
 (.reg [⟨some 25, .ld none (.g 1), none⟩,
  ⟨none, .bad, none⟩])
 (.skip)))
 (.seq (.seq (.reg [⟨some 26, .mv (.t 0), none⟩,
  ⟨some 27, .bin .eql [] (.t 26) (.c (.int .u64 0)), none⟩])
 (.cond (.t 27)
 (.seq (.regd [(0, ⟨some 28, .mv (.t 1), none⟩),
  (1, ⟨some 29, .mv (.t 2), none⟩),
  (2, ⟨some 30, .bin .quo [] (.t 28) (.t 29), none⟩),
  (3, ⟨some 31, .mv (.t 1), none⟩),
  (4, ⟨some 32, .mv (.t 2), none⟩),
  (5, ⟨some 33, .bin .rem [] (.t 31) (.t 32), none⟩),
  (6, ⟨some 6, .mv (.t 30), none⟩),
  (7, ⟨some 7, .mv (.t 33), none⟩)] [])
 (.ret))
 (.skip)))
 (.seq (.reg [⟨some 34, .mv (.t 2), none⟩,
  ⟨some 35, .call 78 [(.t 34)], none⟩,
  ⟨some 36, .ci .u64 (.t 35), none⟩,
  ⟨some 8, .mv (.t 36), none⟩])
 (.seq (.reg [⟨some 37, .mv (.t 2), none⟩,
  ⟨some 38, .mv (.t 8), none⟩,
  ⟨some 39, .bin .shl [] (.t 37) (.t 38), none⟩,
  ⟨some 2, .mv (.t 39), none⟩])
 (.seq (.reg [⟨some 40, .mv (.t 2), none⟩,
  ⟨some 41, .bin .shr [] (.t 40) (.c (.int .u64 32)), none⟩,
  ⟨some 9, .mv (.t 41), none⟩])
 (.seq (.reg [⟨some 42, .mv (.t 2), none⟩,
  ⟨some 43, .bin .and [] (.t 42) (.c (.int .u64 4294967295)), none⟩,
  ⟨some 10, .mv (.t 43), none⟩])
 (.seq (.reg [⟨some 44, .mv (.t 0), none⟩,
  ⟨some 45, .mv (.t 8), none⟩,
  ⟨some 46, .bin .shl [] (.t 44) (.t 45), none⟩,
  ⟨some 47, .mv (.t 1), none⟩,
  ⟨some 48, .mv (.t 8), none⟩,
  ⟨some 49, .bin .sub [] (.c (.int .u64 64)) (.t 48), none⟩,
  ⟨some 50, .bin .shr [] (.t 47) (.t 49), none⟩,
  ⟨some 51, .bin .or [] (.t 46) (.t 50), none⟩,
  ⟨some 11, .mv (.t 51), none⟩])
 (.seq (.reg [⟨some 52, .mv (.t 1), none⟩,
  ⟨some 53, .mv (.t 8), none⟩,
  ⟨some 54, .bin .shl [] (.t 52) (.t 53), none⟩,
  ⟨some 12, .mv (.t 54), none⟩])
 (.seq (.reg [⟨some 55, .mv (.t 12), none⟩,
  ⟨some 56, .bin .shr [] (.t 55) (.c (.int .u64 32)), none⟩,
  ⟨some 13, .mv (.t 56), none⟩])
 (.seq (.reg [⟨some 57, .mv (.t 12), none⟩,
  ⟨some 58, .bin .and [] (.t 57) (.c (.int .u64 4294967295)), none⟩,
  ⟨some 14, .mv (.t 58), none⟩])
 (.seq (.reg [⟨some 59, .mv (.t 11), none⟩,
  ⟨some 60, .mv (.t 9), none⟩,
  ⟨some 61, .bin .quo [] (.t 59) (.t 60), none⟩,
  ⟨some 15, .mv (.t 61), none⟩])
 (.seq (.reg [⟨some 62, .mv (.t 11), none⟩,
  ⟨some 63, .mv (.t 15), none⟩,
  ⟨some 64, .mv (.t 9), none⟩,
  ⟨some 65, .bin .mul [] (.t 63) (.t 64), none⟩,
  ⟨some 66, .bin .sub [] (.t 62) (.t 65), none⟩,
  ⟨some 16, .mv (.t 66), none⟩])
 (.seq (.block 0 [2, 8, 9, 10, 11, 13, 14, 15]
 (.loop [2, 8, 9, 10, 11, 13, 14, 15, 16]
 (.seq (.seq (.reg [⟨some 67, .mv (.t 15), none⟩,
  ⟨some 68, .bin .geq [] (.t 67) (.c (.int .u64 4294967296)), none⟩,
  ⟨some 69, .mv (.t 68), none⟩,
  ⟨some 70, .mv (.t 15), some (69, false)⟩,
  ⟨some 71, .mv (.t 10), some (69, false)⟩,
  ⟨some 72, .bin .mul [] (.t 70) (.t 71), some (69, false)⟩,
  ⟨some 73, .mv (.t 16), some (69, false)⟩,
  ⟨some 74, .bin .mul [] (.c (.int .u64 4294967296)) (.t 73), some (69, false)⟩,
  ⟨some 75, .mv (.t 13), some (69, false)⟩,
  ⟨some 76, .bin .add [] (.t 74) (.t 75), some (69, false)⟩,
  ⟨some 77, .bin .gtr [] (.t 72) (.t 76), some (69, false)⟩,
  ⟨some 78, .pick (.t 69) (.c (.bool true)) (.t 77), none⟩])
 (.cond (.t 78)
 (.skip)
 (.exit 0)))
 (.block 1 [2, 8, 9, 10, 11, 13, 14, 15, 16]
 (.seq (.reg [⟨some 79, .mv (.t 15), none⟩,
  ⟨some 80, .bin .sub [] (.t 79) (.c (.int .u64 1)), none⟩,
  ⟨some 15, .mv (.t 80), none⟩])
 (.seq (.reg [⟨some 81, .mv (.t 16), none⟩,
  ⟨some 82, .mv (.t 9), none⟩,
  ⟨some 83, .bin .add [] (.t 81) (.t 82), none⟩,
  ⟨some 16, .mv (.t 83), none⟩])
 (.seq (.reg [⟨some 84, .mv (.t 16), none⟩,
  ⟨some 85, .bin .geq [] (.t 84) (.c (.int .u64 4294967296)), none⟩])
 (.cond (.t 85)
 (.exit 0)
 (.skip)))))))))
 (.seq (.reg [⟨some 86, .mv (.t 11), none⟩,
  ⟨some 87, .bin .mul [] (.t 86) (.c (.int .u64 4294967296)), none⟩,
  ⟨some 88, .mv (.t 13), none⟩,
  ⟨some 89, .bin .add [] (.t 87) (.t 88), none⟩,
  ⟨some 90, .mv (.t 15), none⟩,
  ⟨some 91, .mv (.t 2), none⟩,
  ⟨some 92, .bin .mul [] (.t 90) (.t 91), none⟩,
  ⟨some 93, .bin .sub [] (.t 89) (.t 92), none⟩,
  ⟨some 17, .mv (.t 93), none⟩])
 (.seq (.reg [⟨some 94, .mv (.t 17), none⟩,
  ⟨some 95, .mv (.t 9), none⟩,
  ⟨some 96, .bin .quo [] (.t 94) (.t 95), none⟩,
  ⟨some 18, .mv (.t 96), none⟩])
 (.seq (.reg [⟨some 97, .mv (.t 17), none⟩,
  ⟨some 98, .mv (.t 18), none⟩,
  ⟨some 99, .mv (.t 9), none⟩,
  ⟨some 100, .bin .mul [] (.t 98) (.t 99), none⟩,
  ⟨some 101, .bin .sub [] (.t 97) (.t 100), none⟩,
  ⟨some 16, .mv (.t 101), none⟩])
 (.seq (.block 2 [2, 8, 14, 15, 17, 18]
 (.loop [2, 8, 9, 10, 14, 15, 16, 17, 18]
 (.seq (.seq (.reg [⟨some 102, .mv (.t 18), none⟩,
  ⟨some 103, .bin .geq [] (.t 102) (.c (.int .u64 4294967296)), none⟩,
  ⟨some 104, .mv (.t 103), none⟩,
  ⟨some 105, .mv (.t 18), some (104, false)⟩,
  ⟨some 106, .mv (.t 10), some (104, false)⟩,
  ⟨some 107, .bin .mul [] (.t 105) (.t 106), some (104, false)⟩,
  ⟨some 108, .mv (.t 16), some (104, false)⟩,
  ⟨some 109, .bin .mul [] (.c (.int .u64 4294967296)) (.t 108), some (104, false)⟩,
  ⟨some 110, .mv (.t 14), some (104, false)⟩,
  ⟨some 111, .bin .add [] (.t 109) (.t 110), some (104, false)⟩,
  ⟨some 112, .bin .gtr [] (.t 107) (.t 111), some (104, false)⟩,
  ⟨some 113, .pick (.t 104) (.c (.bool true)) (.t 112), none⟩])
 (.cond (.t 113)
 (.skip)
 (.exit 2)))
 (.block 3 [2, 8, 9, 10, 14, 15, 16, 17, 18]
 (.seq (.reg [⟨some 114, .mv (.t 18), none⟩,
  ⟨some 115, .bin .sub [] (.t 114) (.c (.int .u64 1)), none⟩,
  ⟨some 18, .mv (.t 115), none⟩])
 (.seq (.reg [⟨some 116, .mv (.t 16), none⟩,
  ⟨some 117, .mv (.t 9), none⟩,
  ⟨some 118, .bin .add [] (.t 116) (.t 117), none⟩,
  ⟨some 16, .mv (.t 118), none⟩])
 (.seq (.reg [⟨some 119, .mv (.t 16), none⟩,
  ⟨some 120, .bin .geq [] (.t 119) (.c (.int .u64 4294967296)), none⟩])
 (.cond (.t 120)
 (.exit 2)
 (.skip)))))))))
 (.seq (.reg [⟨some 121, .mv (.t 15), none⟩,
  ⟨some 122, .bin .mul [] (.t 121) (.c (.int .u64 4294967296)), none⟩,
  ⟨some 123, .mv (.t 18), none⟩,
  ⟨some 124, .bin .add [] (.t 122) (.t 123), none⟩,
  ⟨some 125, .mv (.t 17), none⟩,
  ⟨some 126, .bin .mul [] (.t 125) (.c (.int .u64 4294967296)), none⟩,
  ⟨some 127, .mv (.t 14), none⟩,
  ⟨some 128, .bin .add [] (.t 126) (.t 127), none⟩,
  ⟨some 129, .mv (.t 18), none⟩,
  ⟨some 130, .mv (.t 2), none⟩,
  ⟨some 131, .bin .mul [] (.t 129) (.t 130), none⟩,
  ⟨some 132, .bin .sub [] (.t 128) (.t 131), none⟩,
  ⟨some 133, .mv (.t 8), none⟩,
  ⟨some 134, .bin .shr [] (.t 132) (.t 133), none⟩,
  ⟨some 6, .mv (.t 124), none⟩,
  ⟨some 7, .mv (.t 134), none⟩])
 (.ret)))))))))))))))))))),
 [.tmp 6, .tmp 7], true⟩
/-- ephemeris/combine.may -/
def M57 : MFunc := ⟨.seq (.reg [⟨some 2, .mv (.c (.bool false)), none⟩])
 (.seq (.reg [⟨some 3, .mv (.t 0), none⟩,
  ⟨some 4, .call 79 [(.t 3), (.f 80)], none⟩,
  ⟨some 5, .un .not (.t 4), none⟩,
  ⟨some 2, .mv (.t 5), none⟩])
 (.ret)),
 [.tmp 2], true⟩
/-- ephemeris/combine.middles -/
def M58 : MFunc := ⟨.seq (.reg [⟨some 2, .bx none 1 (.t 0), none⟩,
  ⟨some 3, .bx (some .i64) 3 (.t 1), none⟩,
  ⟨some 4, .mv (.c .nilf), none⟩])
 (.seq (.reg [⟨some 5, .mf 81 [(.t 2), (.t 3)], none⟩,
  ⟨some 4, .mv (.t 5), none⟩])
 (.ret)),
 [.tmp 4], true⟩
/-- ephemeris/combine.Mean_2 -/
def M60 : MFunc := ⟨.seq (.reg [⟨some 6, .mv (.c (.int .i64 0)), none⟩,
  ⟨some 7, .mv (.c (.int .i64 0)), none⟩])
 (.seq (.reg [⟨some 8, .mv (.t 0), none⟩,
  ⟨some 9, .fa 1 (.t 2), none⟩,
  ⟨some 10, .ld none (.t 9), none⟩,
  ⟨some 11, .bin .sub [] (.t 8) (.t 10), none⟩,
  ⟨some 12, .mv (.t 1), none⟩,
  ⟨some 13, .ld none (.t 3), none⟩,
  ⟨some 14, .call 50 [(.t 11), (.t 12), (.t 13)], none⟩,
  ⟨some 15, .ex 0 (.t 14), none⟩,
  ⟨some 16, .ex 1 (.t 14), none⟩,
  ⟨some 6, .mv (.t 15), none⟩,
  ⟨some 7, .mv (.t 16), none⟩])
 (.ret)),
 [.tmp 6, .tmp 7], true⟩
/-- ephemeris/combine.Mean_3 -/
def M61 : MFunc := ⟨.seq (.reg [⟨some 6, .mv (.c (.int .i64 0)), none⟩,
  ⟨some 7, .mv (.c (.int .i64 0)), none⟩])
 (.seq (.regd [(0, ⟨some 8, .mv (.t 0), none⟩),
  (1, ⟨some 9, .ld none (.t 2), none⟩),
  (2, ⟨some 10, .bin .sub [] (.t 8) (.t 9), none⟩),
  (3, ⟨some 11, .call 62 [(.t 10)], none⟩),
  (4, ⟨some 12, .mv (.t 1), none⟩),
  (5, ⟨some 13, .ld none (.t 3), none⟩),
  (6, ⟨some 14, .call 48 [(.t 11), (.t 12), (.t 13)], none⟩),
  (7, ⟨some 15, .ex 0 (.t 14), none⟩),
  (8, ⟨some 16, .ex 1 (.t 14), none⟩),
  (9, ⟨some 6, .mv (.t 15), none⟩),
  (10, ⟨some 7, .mv (.t 16), none⟩)] [(5, 3)])
 (.ret)),
 [.tmp 6, .tmp 7], true⟩
/-- ephemeris/fix.Abs -/
def M62 : MFunc := ⟨.seq (.reg [⟨some 2, .mv (.c (.int .i64 0)), none⟩])
 (.seq (.block 0 [0]
 (.seq (.reg [⟨some 4, .mv (.t 0), none⟩,
  ⟨some 5, .bin .eql [] (.t 4) (.c (.int .i64 (-9223372036854775808))), none⟩,
  ⟨some 3, .mv (.t 5), none⟩])
 (.cond (.t 3)
 (.seq (.reg [⟨some 2, .mv (.c (.int .i64 9223372036854775807)), none⟩])
 (.ret))
 (.seq (.reg [⟨some 7, .mv (.t 0), none⟩,
  ⟨some 8, .bin .lss [] (.t 7) (.c (.int .i64 0)), none⟩,
  ⟨some 6, .mv (.t 8), none⟩])
 (.cond (.t 6)
 (.seq (.reg [⟨some 9, .mv (.t 0), none⟩,
  ⟨some 10, .un .neg (.t 9), none⟩,
  ⟨some 2, .mv (.t 10), none⟩])
 (.ret))
 (.skip))))))
 (.seq (.reg [⟨some 11, .mv (.t 0), none⟩,
  ⟨some 2, .mv (.t 11), none⟩])
 (.ret))),
 [.tmp 2], true⟩
/-- ephemeris/ephemerisref24.May -/
def M63 : MFunc := ⟨.seq (.reg [⟨some 2, .mv (.c (.bool false)), none⟩])
 (.seq (.seq (.reg [⟨some 3, .mv (.c (.int .i64 0)), none⟩])
 (.block 0 [0]
 (.loop [0, 3]
 (.seq (.seq (.reg [⟨some 4, .mv (.t 3), none⟩,
  ⟨some 5, .mv (.t 0), none⟩,
  ⟨some 6, .len none (.t 5), none⟩,
  ⟨some 7, .bin .lss [] (.t 4) (.t 6), none⟩])
 (.cond (.t 7)
 (.skip)
 (.exit 0)))
 (.seq (.block 1 [0, 3]
 (.seq (.reg [⟨some 10, .mv (.t 0), none⟩,
  ⟨some 11, .mv (.t 3), none⟩,
  ⟨some 12, .ia none 3 (.t 10) (.t 11), none⟩,
  ⟨some 13, .ld (some 3) (.t 12), none⟩,
  ⟨some 14, .call 42 [(.t 13)], none⟩,
  ⟨some 15, .un .not (.t 14), none⟩])
 (.cond (.t 15)
 (.seq (.reg [⟨some 2, .mv (.c (.bool false)), none⟩])
 (.ret))
 (.skip))))
 (.reg [⟨some 8, .mv (.t 3), none⟩,
  ⟨some 9, .bin .add [] (.t 8) (.c (.int .i64 1)), none⟩,
  ⟨some 3, .mv (.t 9), none⟩]))))))
 (.seq (.reg [⟨some 16, .mv (.t 0), none⟩,
  ⟨some 17, .len none (.t 16), none⟩,
  ⟨some 18, .bin .leq [] (.t 17) (.c (.int .i64 16)), none⟩,
  ⟨some 2, .mv (.t 18), none⟩])
 (.ret))),
 [.tmp 2], true⟩
/-- ephemeris/ephemerisref01.MulDiv -/
def M64 : MFunc := ⟨.seq (.reg [⟨some 8, .mv (.c (.int .i64 0)), none⟩,
  ⟨some 9, .mv (.c (.int .i64 0)), none⟩])
 (.seq (.seq (.reg [⟨some 13, .mv (.t 2), none⟩,
  ⟨some 14, .bin .leq [] (.t 13) (.c (.int .i64 0)), none⟩])
 (.cond (.t 14)
 (.seq (.reg [⟨some 8, .mv (.c (.int .i64 0)), none⟩,
  ⟨some 9, .mv (.c (.int .i64 1)), none⟩])
 (.ret))
 (.skip)))
 (.seq (.reg [⟨some 15, .mv (.t 0), none⟩,
  ⟨some 16, .call 76 [(.t 15)], none⟩,
  ⟨some 17, .mv (.t 1), none⟩,
  ⟨some 18, .call 76 [(.t 17)], none⟩,
  ⟨some 19, .call 82 [(.t 16), (.t 18)], none⟩,
  ⟨some 10, .al (.vals [(.bool false), .nils]), none⟩,
  ⟨none, .st 2 (.t 10) (.t 19), none⟩])
 (.seq (.regd [(0, ⟨some 21, .fa 1 (.t 10), none⟩),
  (1, ⟨some 22, .ld none (.t 21), none⟩),
  (2, ⟨some 23, .mv (.t 2), none⟩),
  (3, ⟨some 24, .call 76 [(.t 23)], none⟩),
  (4, ⟨some 25, .fld 1 none (.t 24), none⟩),
  (5, ⟨some 26, .call 83 [(.t 22), (.t 25)], none⟩),
  (6, ⟨some 20, .mv (.t 26), none⟩),
  (7, ⟨some 27, .ex 0 (.t 20), none⟩),
  (8, ⟨some 28, .ex 1 (.t 20), none⟩),
  (9, ⟨some 11, .mv (.t 27), none⟩),
  (10, ⟨some 12, .mv (.t 28), none⟩)] [(1, 3)])
 (.seq (.seq (.reg [⟨some 29, .mv (.t 12), none⟩,
  ⟨some 30, .len none (.t 29), none⟩,
  ⟨some 31, .bin .gtr [] (.t 30) (.c (.int .i64 0)), none⟩,
  ⟨some 32, .mv (.t 31), none⟩,
  ⟨some 33, .fa 0 (.t 10), some (32, true)⟩,
  ⟨some 34, .ld none (.t 33), some (32, true)⟩,
  ⟨some 35, .mv (.t 3), some (32, true)⟩,
  ⟨some 36, .bin .neq [1] (.t 34) (.t 35), some (32, true)⟩,
  ⟨some 37, .pick (.t 32) (.t 36) (.c (.bool false)), none⟩])
 (.cond (.t 37)
 (.reg [⟨some 38, .mv (.t 11), none⟩,
  ⟨some 39, .bsl (.ints .u32 [0]) 1 1 [(0, 1, (.c (.int .u32 1)))], none⟩,
  ⟨some 40, .call 84 [(.t 38), (.t 39)], none⟩,
  ⟨some 11, .mv (.t 40), none⟩])
 (.skip)))
 (.seq (.reg [⟨some 41, .fa 0 (.t 10), none⟩,
  ⟨some 42, .ld none (.t 41), none⟩,
  ⟨some 43, .mv (.t 11), none⟩,
  ⟨some 44, .bld [(.bool false), .nils] [(0, 1, (.t 42)), (1, 1, (.t 43))], none⟩,
  ⟨some 45, .call 85 [(.t 44)], none⟩,
  ⟨some 46, .ex 0 (.t 45), none⟩,
  ⟨some 47, .ex 1 (.t 45), none⟩,
  ⟨some 8, .mv (.t 46), none⟩,
  ⟨some 9, .mv (.t 47), none⟩])
 (.ret)))))),
 [.tmp 8, .tmp 9], true⟩
/-- ephemeris/ephemerisref24.mid -/
def M65 : MFunc := ⟨.seq (.reg [⟨some 2, .bx (some .i64) 3 (.t 0), none⟩,
  ⟨some 3, .bx (some .i64) 3 (.t 1), none⟩,
  ⟨some 4, .mv (.c (.int .i64 0)), none⟩])
 (.seq (.reg [⟨some 6, .ld (some 3) (.t 2), none⟩,
  ⟨some 7, .call 43 [(.t 6)], none⟩,
  ⟨some 5, .mv (.t 7), none⟩])
 (.seq (.seq (.reg [⟨some 8, .mv (.t 5), none⟩,
  ⟨some 9, .fa 1 (.t 3), none⟩,
  ⟨some 10, .ld none (.t 9), none⟩,
  ⟨some 11, .bin .lss [] (.t 8) (.t 10), none⟩])
 (.cond (.t 11)
 (.seq (.reg [⟨some 12, .fa 1 (.t 3), none⟩,
  ⟨some 13, .ld none (.t 12), none⟩,
  ⟨some 4, .mv (.t 13), none⟩])
 (.ret))
 (.skip)))
 (.seq (.seq (.reg [⟨some 14, .mv (.t 5), none⟩,
  ⟨some 15, .fa 2 (.t 3), none⟩,
  ⟨some 16, .ld none (.t 15), none⟩,
  ⟨some 17, .bin .gtr [] (.t 14) (.t 16), none⟩])
 (.cond (.t 17)
 (.seq (.reg [⟨some 18, .fa 2 (.t 3), none⟩,
  ⟨some 19, .ld none (.t 18), none⟩,
  ⟨some 4, .mv (.t 19), none⟩])
 (.ret))
 (.skip)))
 (.seq (.reg [⟨some 20, .mv (.t 5), none⟩,
  ⟨some 4, .mv (.t 20), none⟩])
 (.ret))))),
 [.tmp 4], true⟩
/-- ephemeris/ephemerisref01.Abs -/
def M66 : MFunc := ⟨.seq (.reg [⟨some 2, .mv (.c (.int .i64 0)), none⟩])
 (.seq (.seq (.reg [⟨some 3, .mv (.t 0), none⟩,
  ⟨some 4, .bin .eql [] (.t 3) (.c (.int .i64 (-9223372036854775808))), none⟩])
 (.cond (.t 4)
 (.seq (.reg [⟨some 2, .mv (.c (.int .i64 9223372036854775807)), none⟩])
 (.ret))
 (.skip)))
 (.seq (.seq (.reg [⟨some 5, .mv (.t 0), none⟩,
  ⟨some 6, .bin .lss [] (.t 5) (.c (.int .i64 0)), none⟩])
 (.cond (.t 6)
 (.seq (.reg [⟨some 7, .mv (.t 0), none⟩,
  ⟨some 8, .un .neg (.t 7), none⟩,
  ⟨some 2, .mv (.t 8), none⟩])
 (.ret))
 (.skip)))
 (.seq (.reg [⟨some 9, .mv (.t 0), none⟩,
  ⟨some 2, .mv (.t 9), none⟩])
 (.ret)))),
 [.tmp 2], true⟩
/-- ephemeris/combine.breadth -/
def M67 : MFunc := ⟨.seq (.reg [⟨some 1, .bx (some .i64) 3 (.t 0), none⟩,
  ⟨some 2, .mv (.c (.int .i64 0)), none⟩])
 (.seq (.reg [⟨some 3, .ld (some 3) (.t 1), none⟩,
  ⟨some 4, .call 24 [(.t 3)], none⟩,
  ⟨some 5, .bin .add [] (.t 4) (.c (.int .i64 1)), none⟩,
  ⟨some 2, .mv (.t 5), none⟩])
 (.ret)),
 [.tmp 2], true⟩
/-- ephemeris/span.ends_1 -/
def M68 : MFunc := ⟨.seq (.reg [⟨some 3, .mv (.c (.int .i64 0)), none⟩])
 (.seq (.regd [(0, ⟨some 4, .mv (.t 0), none⟩),
  (1, ⟨some 5, .ia (some 2) 2 (.t 1) (.t 4), none⟩),
  (2, ⟨some 6, .ia (some 2) 1 (.t 5) (.c (.int .i64 0)), none⟩),
  (3, ⟨some 7, .ld none (.t 6), none⟩),
  (4, ⟨some 8, .mv (.t 0), none⟩),
  (5, ⟨some 9, .ia (some 2) 2 (.t 1) (.t 8), none⟩),
  (6, ⟨some 10, .ia (some 2) 1 (.t 9) (.c (.int .i64 1)), none⟩),
  (7, ⟨some 11, .ld none (.t 10), none⟩),
  (8, ⟨some 12, .call 47 [(.t 7), (.t 11)], none⟩),
  (9, ⟨some 13, .call 49 [(.t 12)], none⟩),
  (10, ⟨some 3, .mv (.t 13), none⟩)] [])
 (.ret)),
 [.tmp 3], true⟩
/-- ephemeris/fix.Add -/
def M69 : MFunc := ⟨.seq (.reg [⟨some 4, .mv (.c (.int .i64 0)), none⟩,
  ⟨some 5, .mv (.c (.int .i64 0)), none⟩])
 (.seq (.reg [⟨some 7, .mv (.t 0), none⟩,
  ⟨some 8, .mv (.t 1), none⟩,
  ⟨some 9, .bin .add [] (.t 7) (.t 8), none⟩,
  ⟨some 6, .mv (.t 9), none⟩])
 (.seq (.seq (.reg [⟨some 10, .mv (.t 1), none⟩,
  ⟨some 11, .bin .neq [] (.t 10) (.c (.int .i64 0)), none⟩,
  ⟨some 12, .mv (.t 11), none⟩,
  ⟨some 13, .mv (.t 6), some (12, true)⟩,
  ⟨some 14, .mv (.t 0), some (12, true)⟩,
  ⟨some 15, .bin .gtr [] (.t 13) (.t 14), some (12, true)⟩,
  ⟨some 16, .mv (.t 1), some (12, true)⟩,
  ⟨some 17, .bin .gtr [] (.t 16) (.c (.int .i64 0)), some (12, true)⟩,
  ⟨some 18, .bin .neq [1] (.t 15) (.t 17), some (12, true)⟩,
  ⟨some 19, .pick (.t 12) (.t 18) (.c (.bool false)), none⟩])
 (.cond (.t 19)
 (.seq (.reg [⟨some 4, .mv (.c (.int .i64 0)), none⟩,
  ⟨some 5, .mv (.c (.int .i64 20)), none⟩])
 (.ret))
 (.skip)))
 (.seq (.reg [⟨some 20, .mv (.t 6), none⟩,
  ⟨some 4, .mv (.t 20), none⟩,
  ⟨some 5, .mv (.c (.int .i64 0)), none⟩])
 (.ret)))),
 [.tmp 4, .tmp 5], true⟩
/-- ephemeris/fix.nearest -/
def M70 : MFunc := ⟨.seq (.reg [⟨some 6, .mv (.c (.int .i64 0)), none⟩])
 (.seq (.block 0 []
 (.seq (.reg [⟨some 8, .mv (.t 1), none⟩,
  ⟨some 9, .bin .eql [] (.t 8) (.c (.int .i64 0)), none⟩,
  ⟨some 7, .mv (.t 9), none⟩])
 (.cond (.t 7)
 (.seq (.reg [⟨some 10, .mv (.t 0), none⟩,
  ⟨some 6, .mv (.t 10), none⟩])
 (.ret))
 (.seq (.reg [⟨some 12, .mv (.t 2), none⟩,
  ⟨some 11, .mv (.t 12), none⟩])
 (.cond (.t 11)
 (.seq (.reg [⟨some 6, .mv (.c (.int .i64 (-9223372036854775808))), none⟩])
 (.ret))
 (.skip))))))
 (.seq (.reg [⟨some 6, .mv (.c (.int .i64 9223372036854775807)), none⟩])
 (.ret))),
 [.tmp 6], true⟩
/-- ephemeris/fix.quotient -/
def M71 : MFunc := ⟨.seq (.reg [⟨some 8, .mv (.c (.int .i64 0)), none⟩,
  ⟨some 9, .mv (.c (.int .i64 0)), none⟩])
 (.seq (.seq (.reg [⟨some 16, .mv (.t 2), none⟩,
  ⟨some 17, .bin .leq [] (.t 16) (.c (.int .i64 0)), none⟩])
 (.cond (.t 17)
 (.seq (.reg [⟨some 8, .mv (.c (.int .i64 0)), none⟩,
  ⟨some 9, .mv (.c (.int .i64 1)), none⟩])
 (.ret))
 (.skip)))
 (.seq (.reg [⟨some 10, .al (.ints .u64 [0, 0]), none⟩])
 (.seq (.reg [⟨some 19, .mv (.t 0), none⟩,
  ⟨some 20, .call 86 [(.t 19)], none⟩,
  ⟨some 21, .mv (.t 1), none⟩,
  ⟨some 22, .call 86 [(.t 21)], none⟩,
  ⟨some 23, .call 55 [(.t 20), (.t 22)], none⟩,
  ⟨some 18, .mv (.t 23), none⟩,
  ⟨some 24, .ex 0 (.t 18), none⟩,
  ⟨some 25, .ex 1 (.t 18), none⟩,
  ⟨some 26, .ia (some 2) 1 (.t 10) (.c (.int .i64 0)), none⟩,
  ⟨none, .st 1 (.t 26) (.t 24), none⟩,
  ⟨some 27, .ia (some 2) 1 (.t 10) (.c (.int .i64 1)), none⟩,
  ⟨none, .st 1 (.t 27) (.t 25), none⟩])
 (.seq (.seq (.reg [⟨some 28, .ia (some 2) 1 (.t 10) (.c (.int .i64 0)), none⟩,
  ⟨some 29, .ld none (.t 28), none⟩,
  ⟨some 30, .mv (.t 2), none⟩,
  ⟨some 31, .ci .u64 (.t 30), none⟩,
  ⟨some 32, .bin .geq [] (.t 29) (.t 31), none⟩])
 (.cond (.t 32)
 (.seq (.reg [⟨some 8, .mv (.c (.int .i64 0)), none⟩,
  ⟨some 9, .mv (.c (.int .i64 20)), none⟩])
 (.ret))
 (.skip)))
 (.seq (.reg [⟨some 33, .mv (.t 0), none⟩,
  ⟨some 34, .bin .lss [] (.t 33) (.c (.int .i64 0)), none⟩,
  ⟨some 35, .mv (.t 1), none⟩,
  ⟨some 36, .bin .lss [] (.t 35) (.c (.int .i64 0)), none⟩,
  ⟨some 37, .bin .neq [1] (.t 34) (.t 36), none⟩,
  ⟨some 11, .mv (.t 37), none⟩])
 (.seq (.reg [⟨some 39, .ia (some 2) 1 (.t 10) (.c (.int .i64 0)), none⟩,
  ⟨some 40, .ld none (.t 39), none⟩,
  ⟨some 41, .ia (some 2) 1 (.t 10) (.c (.int .i64 1)), none⟩,
  ⟨some 42, .ld none (.t 41), none⟩,
  ⟨some 43, .mv (.t 2), none⟩,
  ⟨some 44, .ci .u64 (.t 43), none⟩,
  ⟨some 45, .call 56 [(.t 40), (.t 42), (.t 44)], none⟩,
  ⟨some 38, .mv (.t 45), none⟩,
  ⟨some 46, .ex 0 (.t 38), none⟩,
  ⟨some 47, .ex 1 (.t 38), none⟩,
  ⟨some 12, .mv (.t 46), none⟩,
  ⟨some 13, .mv (.t 47), none⟩])
 (.seq (.seq (.reg [⟨some 48, .mv (.t 13), none⟩,
  ⟨some 49, .bin .gtr [] (.t 48) (.c (.int .u64 0)), none⟩,
  ⟨some 50, .mv (.t 49), none⟩,
  ⟨some 51, .mv (.t 3), some (50, true)⟩,
  ⟨some 52, .mv (.t 11), some (50, true)⟩,
  ⟨some 53, .calld (.t 51) [(.t 52)], some (50, true)⟩,
  ⟨some 54, .pick (.t 50) (.t 53) (.c (.bool false)), none⟩])
 (.cond (.t 54)
 (.seq (.reg [⟨some 55, .mv (.t 12), none⟩,
  ⟨some 56, .bin .add [] (.t 55) (.c (.int .u64 1)), none⟩,
  ⟨some 12, .mv (.t 56), none⟩])
 (.seq (.reg [⟨some 57, .mv (.t 12), none⟩,
  ⟨some 58, .bin .eql [] (.t 57) (.c (.int .u64 0)), none⟩])
 (.cond (.t 58)
 (.seq (.reg [⟨some 8, .mv (.c (.int .i64 0)), none⟩,
  ⟨some 9, .mv (.c (.int .i64 20)), none⟩])
 (.ret))
 (.skip))))
 (.skip)))
 (.seq (.reg [⟨some 60, .mv (.t 12), none⟩,
  ⟨some 61, .mv (.t 11), none⟩,
  ⟨some 62, .call 87 [(.t 60), (.t 61)], none⟩,
  ⟨some 59, .mv (.t 62), none⟩,
  ⟨some 63, .ex 0 (.t 59), none⟩,
  ⟨some 64, .ex 1 (.t 59), none⟩,
  ⟨some 14, .mv (.t 63), none⟩,
  ⟨some 15, .mv (.t 64), none⟩])
 (.seq (.seq (.reg [⟨some 65, .mv (.t 15), none⟩,
  ⟨some 66, .un .not (.t 65), none⟩])
 (.cond (.t 66)
 (.seq (.reg [⟨some 8, .mv (.c (.int .i64 0)), none⟩,
  ⟨some 9, .mv (.c (.int .i64 20)), none⟩])
 (.ret))
 (.skip)))
 (.seq (.reg [⟨some 67, .mv (.t 14), none⟩,
  ⟨some 8, .mv (.t 67), none⟩,
  ⟨some 9, .mv (.c (.int .i64 0)), none⟩])
 (.ret))))))))))),
 [.tmp 8, .tmp 9], true⟩
/-- ephemeris/fix.MulDivUp_1 -/
def M72 : MFunc := ⟨.seq (.reg [⟨some 2, .mv (.c (.bool false)), none⟩])
 (.seq (.reg [⟨some 3, .mv (.t 0), none⟩,
  ⟨some 4, .un .not (.t 3), none⟩,
  ⟨some 2, .mv (.t 4), none⟩])
 (.ret)),
 [.tmp 2], true⟩
/-- ephemeris/fix.Clamp -/
def M73 : MFunc := ⟨.seq (.reg [⟨some 6, .mv (.c (.int .i64 0)), none⟩])
 (.seq (.block 0 [0]
 (.seq (.reg [⟨some 8, .mv (.t 0), none⟩,
  ⟨some 9, .mv (.t 1), none⟩,
  ⟨some 10, .bin .lss [] (.t 8) (.t 9), none⟩,
  ⟨some 7, .mv (.t 10), none⟩])
 (.cond (.t 7)
 (.seq (.reg [⟨some 11, .mv (.t 1), none⟩,
  ⟨some 6, .mv (.t 11), none⟩])
 (.ret))
 (.seq (.reg [⟨some 13, .mv (.t 0), none⟩,
  ⟨some 14, .mv (.t 2), none⟩,
  ⟨some 15, .bin .gtr [] (.t 13) (.t 14), none⟩,
  ⟨some 12, .mv (.t 15), none⟩])
 (.cond (.t 12)
 (.seq (.reg [⟨some 16, .mv (.t 2), none⟩,
  ⟨some 6, .mv (.t 16), none⟩])
 (.ret))
 (.skip))))))
 (.seq (.reg [⟨some 17, .mv (.t 0), none⟩,
  ⟨some 6, .mv (.t 17), none⟩])
 (.ret))),
 [.tmp 6], true⟩
/-- ephemeris/fix.MulDiv_1 -/
def M74 : MFunc := ⟨.seq (.reg [⟨some 2, .mv (.c (.bool false)), none⟩])
 (.seq (.reg [⟨some 3, .mv (.t 0), none⟩,
  ⟨some 2, .mv (.t 3), none⟩])
 (.ret)),
 [.tmp 2], true⟩
/-- ephemeris/ephemerisref01.Plus -/
def M75 : MFunc := ⟨.seq (.reg [⟨some 2, .bx none 2 (.t 0), none⟩,
  ⟨some 3, .bx none 2 (.t 1), none⟩,
  ⟨some 4, .al (.vals [(.bool false), .nils]), none⟩])
 (.seq (.seq (.reg [⟨some 5, .fa 0 (.t 2), none⟩,
  ⟨some 6, .ld none (.t 5), none⟩,
  ⟨some 7, .fa 0 (.t 3), none⟩,
  ⟨some 8, .ld none (.t 7), none⟩,
  ⟨some 9, .bin .eql [1] (.t 6) (.t 8), none⟩])
 (.cond (.t 9)
 (.seq (.regd [(0, ⟨some 10, .fa 0 (.t 2), none⟩),
  (1, ⟨some 11, .ld none (.t 10), none⟩),
  (2, ⟨some 12, .fa 1 (.t 2), none⟩),
  (3, ⟨some 13, .ld none (.t 12), none⟩),
  (4, ⟨some 14, .fa 1 (.t 3), none⟩),
  (5, ⟨some 15, .ld none (.t 14), none⟩),
  (6, ⟨some 16, .call 84 [(.t 13), (.t 15)], none⟩),
  (7, ⟨some 17, .bld [(.bool false), .nils] [(0, 1, (.t 11)), (1, 1, (.t 16))], none⟩),
  (8, ⟨some 18, .call 88 [(.t 17)], none⟩),
  (9, ⟨none, .st 2 (.t 4) (.t 18), none⟩)] [(1, 6)])
 (.ret))
 (.skip)))
 (.seq (.seq (.reg [⟨some 19, .fa 1 (.t 2), none⟩,
  ⟨some 20, .ld none (.t 19), none⟩,
  ⟨some 21, .fa 1 (.t 3), none⟩,
  ⟨some 22, .ld none (.t 21), none⟩,
  ⟨some 23, .call 89 [(.t 20), (.t 22)], none⟩])
 (.cond (.t 23)
 (.seq (.regd [(0, ⟨some 24, .fa 0 (.t 3), none⟩),
  (1, ⟨some 25, .ld none (.t 24), none⟩),
  (2, ⟨some 26, .fa 1 (.t 3), none⟩),
  (3, ⟨some 27, .ld none (.t 26), none⟩),
  (4, ⟨some 28, .fa 1 (.t 2), none⟩),
  (5, ⟨some 29, .ld none (.t 28), none⟩),
  (6, ⟨some 30, .call 90 [(.t 27), (.t 29)], none⟩),
  (7, ⟨some 31, .bld [(.bool false), .nils] [(0, 1, (.t 25)), (1, 1, (.t 30))], none⟩),
  (8, ⟨some 32, .call 88 [(.t 31)], none⟩),
  (9, ⟨none, .st 2 (.t 4) (.t 32), none⟩)] [(1, 6)])
 (.ret))
 (.skip)))
 (.seq (.regd [(0, ⟨some 33, .fa 0 (.t 2), none⟩),
  (1, ⟨some 34, .ld none (.t 33), none⟩),
  (2, ⟨some 35, .fa 1 (.t 2), none⟩),
  (3, ⟨some 36, .ld none (.t 35), none⟩),
  (4, ⟨some 37, .fa 1 (.t 3), none⟩),
  (5, ⟨some 38, .ld none (.t 37), none⟩),
  (6, ⟨some 39, .call 90 [(.t 36), (.t 38)], none⟩),
  (7, ⟨some 40, .bld [(.bool false), .nils] [(0, 1, (.t 34)), (1, 1, (.t 39))], none⟩),
  (8, ⟨some 41, .call 88 [(.t 40)], none⟩),
  (9, ⟨none, .st 2 (.t 4) (.t 41), none⟩)] [(1, 6)])
 (.ret)))),
 [.cell 4 (some 2)], true⟩
/-- ephemeris/ephemerisref01.Of -/
def M76 : MFunc := ⟨.seq (.reg [⟨some 2, .al (.vals [(.bool false), .nils]), none⟩])
 (.seq (.reg [⟨some 5, .mv (.t 0), none⟩,
  ⟨some 6, .ci .u64 (.t 5), none⟩,
  ⟨some 3, .mv (.t 6), none⟩])
 (.seq (.reg [⟨some 7, .mv (.t 0), none⟩,
  ⟨some 8, .bin .lss [] (.t 7) (.c (.int .i64 0)), none⟩,
  ⟨some 9, .bld [(.bool false), .nils] [(0, 1, (.t 8))], none⟩,
  ⟨some 4, .al (.vals [(.bool false), .nils]), none⟩,
  ⟨none, .st 2 (.t 4) (.t 9), none⟩])
 (.seq (.seq (.reg [⟨some 10, .mv (.t 0), none⟩,
  ⟨some 11, .bin .lss [] (.t 10) (.c (.int .i64 0)), none⟩])
 (.cond (.t 11)
 (.reg [⟨some 12, .mv (.t 3), none⟩,
  ⟨some 13, .un .neg (.t 12), none⟩,
  ⟨some 3, .mv (.t 13), none⟩])
 (.skip)))
 (.seq (.block 0 [2, 4]
 (.loop [2, 3, 4]
 (.seq (.seq (.reg [⟨some 14, .mv (.t 3), none⟩,
  ⟨some 15, .bin .gtr [] (.t 14) (.c (.int .u64 0)), none⟩])
 (.cond (.t 15)
 (.skip)
 (.exit 0)))
 (.block 1 [2, 3, 4]
 (.seq (.reg [⟨some 16, .fa 1 (.t 4), none⟩,
  ⟨some 17, .ld none (.t 16), none⟩,
  ⟨some 18, .mv (.t 3), none⟩,
  ⟨some 19, .bin .rem [] (.t 18) (.c (.int .u64 65536)), none⟩,
  ⟨some 20, .ci .u32 (.t 19), none⟩,
  ⟨some 21, .bsl (.ints .u32 [0]) 1 1 [(0, 1, (.t 20))], none⟩,
  ⟨some 22, .app (.ints .u32 [0]) 4 (.t 17) (.t 21), none⟩,
  ⟨some 23, .fa 1 (.t 4), none⟩,
  ⟨none, .st 1 (.t 23) (.t 22), none⟩])
 (.reg [⟨some 24, .mv (.t 3), none⟩,
  ⟨some 25, .bin .quo [] (.t 24) (.c (.int .u64 65536)), none⟩,
  ⟨some 3, .mv (.t 25), none⟩]))))))
 (.seq (.reg [⟨some 26, .ld (some 2) (.t 4), none⟩,
  ⟨none, .st 2 (.t 2) (.t 26), none⟩])
 (.ret)))))),
 [.cell 2 (some 2)], true⟩
/-- ephemeris/ephemerisref01.Int -/
def M77 : MFunc := ⟨.seq (.reg [⟨some 1, .bx none 2 (.t 0), none⟩,
  ⟨some 2, .mv (.c (.int .i64 0)), none⟩,
  ⟨some 3, .mv (.c (.bool false)), none⟩])
 (.seq (.reg [⟨some 6, .ld (some 2) (.t 1), none⟩,
  ⟨some 7, .call 88 [(.t 6)], none⟩,
  ⟨none, .st 2 (.t 1) (.t 7), none⟩])
 (.seq (.seq (.reg [⟨some 8, .fa 1 (.t 1), none⟩,
  ⟨some 9, .ld none (.t 8), none⟩,
  ⟨some 10, .len none (.t 9), none⟩,
  ⟨some 11, .bin .gtr [] (.t 10) (.c (.int .i64 4)), none⟩])
 (.cond (.t 11)
 (.seq (.reg [⟨some 2, .mv (.c (.int .i64 0)), none⟩,
  ⟨some 3, .mv (.c (.bool false)), none⟩])
 (.ret))
 (.skip)))
 (.seq (.reg [⟨some 4, .mv (.c (.int .u64 0)), none⟩])
 (.seq (.seq (.reg [⟨some 12, .fa 1 (.t 1), none⟩,
  ⟨some 13, .ld none (.t 12), none⟩,
  ⟨some 14, .len none (.t 13), none⟩,
  ⟨some 15, .bin .sub [] (.t 14) (.c (.int .i64 1)), none⟩,
  ⟨some 5, .mv (.t 15), none⟩])
 (.block 0 [1, 4]
 (.loop [1, 4, 5]
 (.seq (.seq (.reg [⟨some 16, .mv (.t 5), none⟩,
  ⟨some 17, .bin .geq [] (.t 16) (.c (.int .i64 0)), none⟩])
 (.cond (.t 17)
 (.skip)
 (.exit 0)))
 (.seq (.block 1 [1, 4, 5]
 (.reg [⟨some 20, .mv (.t 4), none⟩,
  ⟨some 21, .bin .mul [] (.t 20) (.c (.int .u64 65536)), none⟩,
  ⟨some 22, .fa 1 (.t 1), none⟩,
  ⟨some 23, .ld none (.t 22), none⟩,
  ⟨some 24, .mv (.t 5), none⟩,
  ⟨some 25, .ia none 1 (.t 23) (.t 24), none⟩,
  ⟨some 26, .ld none (.t 25), none⟩,
  ⟨some 27, .ci .u64 (.t 26), none⟩,
  ⟨some 28, .bin .add [] (.t 21) (.t 27), none⟩,
  ⟨some 4, .mv (.t 28), none⟩]))
 (.reg [⟨some 18, .mv (.t 5), none⟩,
  ⟨some 19, .bin .sub [] (.t 18) (.c (.int .i64 1)), none⟩,
  ⟨some 5, .mv (.t 19), none⟩]))))))
 (.seq (.seq (.reg [⟨some 29, .fa 0 (.t 1), none⟩,
  ⟨some 30, .ld none (.t 29), none⟩])
 (.cond (.t 30)
 (.seq (.reg [⟨some 31, .mv (.t 4), none⟩,
  ⟨some 32, .un .neg (.t 31), none⟩,
  ⟨some 33, .ci .i64 (.t 32), none⟩,
  ⟨some 34, .mv (.t 4), none⟩,
  ⟨some 35, .bin .leq [] (.t 34) (.c (.int .u64 9223372036854775808)), none⟩,
  ⟨some 2, .mv (.t 33), none⟩,
  ⟨some 3, .mv (.t 35), none⟩])
 (.ret))
 (.skip)))
 (.seq (.reg [⟨some 36, .mv (.t 4), none⟩,
  ⟨some 37, .ci .i64 (.t 36), none⟩,
  ⟨some 38, .mv (.t 4), none⟩,
  ⟨some 39, .bin .leq [] (.t 38) (.c (.int .u64 9223372036854775807)), none⟩,
  ⟨some 2, .mv (.t 37), none⟩,
  ⟨some 3, .mv (.t 39), none⟩])
 (.ret))))))),
 [.tmp 2, .tmp 3], true⟩
/-- math/bits.LeadingZeros64 -/
def M78 : MFunc := ⟨.seq (.reg [⟨some 2, .mv (.c (.int .i64 0)), none⟩])
 (.seq (.reg [⟨some 3, .mv (.t 0), none⟩,
  ⟨some 4, .call 91 [(.t 3)], none⟩,
  ⟨some 5, .bin .sub [] (.c (.int .i64 64)) (.t 4), none⟩,
  ⟨some 2, .mv (.t 5), none⟩])
 (.ret)),
 [.tmp 2], true⟩
/-- slices.ContainsFunc[[]ephemeris/api.Span,ephemeris/api.Span] -/
def M79 : MFunc := ⟨.seq (.reg [⟨some 4, .mv (.c (.bool false)), none⟩])
 (.seq (.reg [⟨some 5, .mv (.t 0), none⟩,
  ⟨some 6, .mv (.t 1), none⟩,
  ⟨some 7, .call 92 [(.t 5), (.t 6)], none⟩,
  ⟨some 8, .bin .geq [] (.t 7) (.c (.int .i64 0)), none⟩,
  ⟨some 4, .mv (.t 8), none⟩])
 (.ret)),
 [.tmp 4], true⟩
/-- ephemeris/combine.may_1 -/
def M80 : MFunc := ⟨.seq (.reg [⟨some 1, .bx (some .i64) 3 (.t 0), none⟩,
  ⟨some 2, .mv (.c (.bool false)), none⟩])
 (.seq (.reg [⟨some 3, .ld (some 3) (.t 1), none⟩,
  ⟨some 4, .call 28 [(.t 3)], none⟩,
  ⟨some 5, .un .not (.t 4), none⟩,
  ⟨some 2, .mv (.t 5), none⟩])
 (.ret)),
 [.tmp 2], true⟩
/-- ephemeris/combine.middles_1 -/
def M81 : MFunc := ⟨.seq (.reg [⟨some 6, .ld none (.t 1), none⟩,
  ⟨some 7, .call 36 [(.t 6)], none⟩,
  ⟨some 8, .len none (.t 7), none⟩,
  ⟨some 9, .mv (.c (.int .i64 0)), none⟩])
 (.block 0 []
 (.loop [0, 1, 2, 7, 8, 9]
 (.seq (.reg [⟨some 10, .bin .lss [] (.t 9) (.t 8), none⟩])
 (.seq (.cond (.t 10)
 (.skip)
 (.exit 0))
 (.seq (.block 1 [0, 1, 2, 7, 8, 9]
 (.seq (.reg [⟨some 11, .mv (.t 9), none⟩,
  ⟨some 12, .ia none 1 (.t 7) (.t 9), none⟩,
  ⟨some 13, .ld none (.t 12), none⟩,
  ⟨some 4, .mv (.t 11), none⟩,
  ⟨some 5, .mv (.t 13), none⟩])
 (.seq (.regd [(0, ⟨some 14, .mv (.t 0), none⟩),
  (1, ⟨some 15, .ld none (.t 1), none⟩),
  (2, ⟨some 16, .mv (.t 4), none⟩),
  (3, ⟨some 17, .ia none 3 (.t 15) (.t 16), none⟩),
  (4, ⟨some 18, .ld (some 3) (.t 17), none⟩),
  (5, ⟨some 19, .call 31 [(.t 18)], none⟩),
  (6, ⟨some 20, .fa 1 (.t 2), none⟩),
  (7, ⟨some 21, .ld none (.t 20), none⟩),
  (8, ⟨some 22, .fa 2 (.t 2), none⟩),
  (9, ⟨some 23, .ld none (.t 22), none⟩),
  (10, ⟨some 24, .call 73 [(.t 19), (.t 21), (.t 23)], none⟩),
  (11, ⟨some 25, .mv (.t 5), none⟩),
  (12, ⟨some 26, .calld (.t 14) [(.t 24), (.t 25)], none⟩),
  (13, ⟨some 27, .un .not (.t 26), none⟩)] [(7, 5), (9, 5)])
 (.cond (.t 27)
 (.ret)
 (.skip)))))
 (.reg [⟨some 28, .bin .add [] (.t 9) (.c (.int .i64 1)), none⟩,
  ⟨some 9, .mv (.t 28), none⟩])))))),
 [], true⟩
/-- ephemeris/ephemerisref01.Times -/
def M82 : MFunc := ⟨.seq (.reg [⟨some 2, .bx none 2 (.t 0), none⟩,
  ⟨some 3, .bx none 2 (.t 1), none⟩,
  ⟨some 4, .al (.vals [(.bool false), .nils]), none⟩])
 (.seq (.reg [⟨some 11, .bld [(.bool false), .nils] [], none⟩,
  ⟨some 5, .al (.vals [(.bool false), .nils]), none⟩,
  ⟨none, .st 2 (.t 5) (.t 11), none⟩])
 (.seq (.seq (.reg [⟨some 6, .mv (.c (.int .i64 0)), none⟩])
 (.block 0 [2, 3, 4, 5]
 (.loop [2, 3, 4, 5, 6]
 (.seq (.seq (.reg [⟨some 12, .mv (.t 6), none⟩,
  ⟨some 13, .fa 1 (.t 2), none⟩,
  ⟨some 14, .ld none (.t 13), none⟩,
  ⟨some 15, .len none (.t 14), none⟩,
  ⟨some 16, .bin .lss [] (.t 12) (.t 15), none⟩])
 (.cond (.t 16)
 (.skip)
 (.exit 0)))
 (.seq (.block 1 [2, 3, 4, 5, 6]
 (.seq (.reg [⟨some 19, .mv (.t 6), none⟩,
  ⟨some 20, .mks (.ints .u32 [0]) 4 (.t 19) (.t 19), none⟩,
  ⟨some 7, .mv (.t 20), none⟩])
 (.seq (.reg [⟨some 8, .mv (.c (.int .u64 0)), none⟩])
 (.seq (.seq (.reg [⟨some 9, .mv (.c (.int .i64 0)), none⟩])
 (.block 2 [2, 3, 4, 5, 6, 7]
 (.loop [2, 3, 4, 5, 6, 7, 8, 9]
 (.seq (.seq (.reg [⟨some 21, .mv (.t 9), none⟩,
  ⟨some 22, .fa 1 (.t 3), none⟩,
  ⟨some 23, .ld none (.t 22), none⟩,
  ⟨some 24, .len none (.t 23), none⟩,
  ⟨some 25, .bin .lss [] (.t 21) (.t 24), none⟩,
  ⟨some 26, .mv (.t 25), none⟩,
  ⟨some 27, .mv (.t 8), some (26, false)⟩,
  ⟨some 28, .bin .gtr [] (.t 27) (.c (.int .u64 0)), some (26, false)⟩,
  ⟨some 29, .pick (.t 26) (.c (.bool true)) (.t 28), none⟩])
 (.cond (.t 29)
 (.skip)
 (.exit 2)))
 (.seq (.block 3 [2, 3, 4, 5, 6, 7, 8, 9]
 (.seq (.regd [(0, ⟨some 32, .fa 1 (.t 2), none⟩),
  (1, ⟨some 33, .ld none (.t 32), none⟩),
  (2, ⟨some 34, .mv (.t 6), none⟩),
  (3, ⟨some 35, .ia none 1 (.t 33) (.t 34), none⟩),
  (4, ⟨some 36, .ld none (.t 35), none⟩),
  (5, ⟨some 37, .ci .u64 (.t 36), none⟩),
  (6, ⟨some 38, .fa 1 (.t 3), none⟩),
  (7, ⟨some 39, .ld none (.t 38), none⟩),
  (8, ⟨some 40, .mv (.t 9), none⟩),
  (9, ⟨some 41, .call 93 [(.t 39), (.t 40)], none⟩),
  (10, ⟨some 42, .ci .u64 (.t 41), none⟩),
  (11, ⟨some 43, .bin .mul [] (.t 37) (.t 42), none⟩),
  (12, ⟨some 44, .mv (.t 8), none⟩),
  (13, ⟨some 45, .bin .add [] (.t 43) (.t 44), none⟩),
  (14, ⟨some 10, .mv (.t 45), none⟩)] [(1, 9), (4, 9)])
 (.seq (.reg [⟨some 46, .mv (.t 7), none⟩,
  ⟨some 47, .mv (.t 10), none⟩,
  ⟨some 48, .bin .rem [] (.t 47) (.c (.int .u64 65536)), none⟩,
  ⟨some 49, .ci .u32 (.t 48), none⟩,
  ⟨some 50, .bsl (.ints .u32 [0]) 1 1 [(0, 1, (.t 49))], none⟩,
  ⟨some 51, .app (.ints .u32 [0]) 4 (.t 46) (.t 50), none⟩,
  ⟨some 7, .mv (.t 51), none⟩])
 (.reg [⟨some 52, .mv (.t 10), none⟩,
  ⟨some 53, .bin .quo [] (.t 52) (.c (.int .u64 65536)), none⟩,
  ⟨some 8, .mv (.t 53), none⟩]))))
 (.reg [⟨some 30, .mv (.t 9), none⟩,
  ⟨some 31, .bin .add [] (.t 30) (.c (.int .i64 1)), none⟩,
  ⟨some 9, .mv (.t 31), none⟩]))))))
 (.reg [⟨some 54, .fa 1 (.t 5), none⟩,
  ⟨some 55, .ld none (.t 54), none⟩,
  ⟨some 56, .mv (.t 7), none⟩,
  ⟨some 57, .call 84 [(.t 55), (.t 56)], none⟩,
  ⟨some 58, .fa 1 (.t 5), none⟩,
  ⟨none, .st 1 (.t 58) (.t 57), none⟩])))))
 (.reg [⟨some 17, .mv (.t 6), none⟩,
  ⟨some 18, .bin .add [] (.t 17) (.c (.int .i64 1)), none⟩,
  ⟨some 6, .mv (.t 18), none⟩]))))))
 (.seq (.reg [⟨some 59, .fa 0 (.t 2), none⟩,
  ⟨some 60, .ld none (.t 59), none⟩,
  ⟨some 61, .fa 0 (.t 3), none⟩,
  ⟨some 62, .ld none (.t 61), none⟩,
  ⟨some 63, .bin .neq [1] (.t 60) (.t 62), none⟩,
  ⟨some 64, .fa 0 (.t 5), none⟩,
  ⟨none, .st 1 (.t 64) (.t 63), none⟩])
 (.seq (.reg [⟨some 65, .ld (some 2) (.t 5), none⟩,
  ⟨some 66, .call 88 [(.t 65)], none⟩,
  ⟨none, .st 2 (.t 4) (.t 66), none⟩])
 (.ret))))),
 [.cell 4 (some 2)], true⟩
/-- ephemeris/ephemerisref01.Over -/
def M83 : MFunc := ⟨.seq (.reg [⟨some 4, .mv (.c .nils), none⟩,
  ⟨some 5, .mv (.c .nils), none⟩])
 (.seq (.reg [⟨some 6, .mv (.c .nils), none⟩,
  ⟨some 7, .mv (.c .nils), none⟩])
 (.seq (.seq (.reg [⟨some 11, .mv (.t 0), none⟩,
  ⟨some 12, .len none (.t 11), none⟩,
  ⟨some 13, .bin .sub [] (.t 12) (.c (.int .i64 1)), none⟩,
  ⟨some 8, .mv (.t 13), none⟩])
 (.block 0 [6, 7]
 (.loop [0, 1, 6, 7, 8]
 (.seq (.seq (.reg [⟨some 14, .mv (.t 8), none⟩,
  ⟨some 15, .bin .geq [] (.t 14) (.c (.int .i64 0)), none⟩])
 (.cond (.t 15)
 (.skip)
 (.exit 0)))
 (.seq (.block 1 [0, 1, 6, 7, 8]
 (.seq (.reg [⟨some 9, .mv (.c (.int .u32 0)), none⟩])
 (.seq (.seq (.reg [⟨some 10, .mv (.c (.int .i64 15)), none⟩])
 (.block 2 [0, 1, 6, 7, 8, 9]
 (.loop [0, 1, 6, 7, 8, 9, 10]
 (.seq (.seq (.reg [⟨some 18, .mv (.t 10), none⟩,
  ⟨some 19, .bin .geq [] (.t 18) (.c (.int .i64 0)), none⟩])
 (.cond (.t 19)
 (.skip)
 (.exit 2)))
 (.seq (.block 3 [0, 1, 6, 7, 8, 9, 10]
 (.seq (.reg [⟨some 22, .mv (.t 7), none⟩,
  ⟨some 23, .mv (.t 7), none⟩,
  ⟨some 24, .call 84 [(.t 22), (.t 23)], none⟩,
  ⟨some 7, .mv (.t 24), none⟩])
 (.seq (.seq (.reg [⟨some 25, .mv (.t 0), none⟩,
  ⟨some 26, .mv (.t 8), none⟩,
  ⟨some 27, .ia none 1 (.t 25) (.t 26), none⟩,
  ⟨some 28, .ld none (.t 27), none⟩,
  ⟨some 29, .mv (.t 10), none⟩,
  ⟨some 30, .bin .shr [] (.t 28) (.t 29), none⟩,
  ⟨some 31, .bin .rem [] (.t 30) (.c (.int .u32 2)), none⟩,
  ⟨some 32, .bin .eql [] (.t 31) (.c (.int .u32 1)), none⟩])
 (.cond (.t 32)
 (.reg [⟨some 33, .mv (.t 7), none⟩,
  ⟨some 34, .bsl (.ints .u32 [0]) 1 1 [(0, 1, (.c (.int .u32 1)))], none⟩,
  ⟨some 35, .call 84 [(.t 33), (.t 34)], none⟩,
  ⟨some 7, .mv (.t 35), none⟩])
 (.skip)))
 (.seq (.reg [⟨some 36, .mv (.t 7), none⟩,
  ⟨some 37, .bld [(.bool false), .nils] [(1, 1, (.t 36))], none⟩,
  ⟨some 38, .call 88 [(.t 37)], none⟩,
  ⟨some 39, .fld 1 none (.t 38), none⟩,
  ⟨some 7, .mv (.t 39), none⟩])
 (.seq (.reg [⟨some 40, .mv (.t 9), none⟩,
  ⟨some 41, .bin .mul [] (.t 40) (.c (.int .u32 2)), none⟩,
  ⟨some 9, .mv (.t 41), none⟩])
 (.seq (.reg [⟨some 42, .mv (.t 7), none⟩,
  ⟨some 43, .mv (.t 1), none⟩,
  ⟨some 44, .call 89 [(.t 42), (.t 43)], none⟩,
  ⟨some 45, .un .not (.t 44), none⟩])
 (.cond (.t 45)
 (.seq (.reg [⟨some 46, .mv (.t 7), none⟩,
  ⟨some 47, .mv (.t 1), none⟩,
  ⟨some 48, .call 90 [(.t 46), (.t 47)], none⟩,
  ⟨some 49, .bld [(.bool false), .nils] [(1, 1, (.t 48))], none⟩,
  ⟨some 50, .call 88 [(.t 49)], none⟩,
  ⟨some 51, .fld 1 none (.t 50), none⟩,
  ⟨some 7, .mv (.t 51), none⟩])
 (.reg [⟨some 52, .mv (.t 9), none⟩,
  ⟨some 53, .bin .add [] (.t 52) (.c (.int .u32 1)), none⟩,
  ⟨some 9, .mv (.t 53), none⟩]))
 (.skip))))))))
 (.reg [⟨some 20, .mv (.t 10), none⟩,
  ⟨some 21, .bin .sub [] (.t 20) (.c (.int .i64 1)), none⟩,
  ⟨some 10, .mv (.t 21), none⟩]))))))
 (.reg [⟨some 54, .mv (.t 9), none⟩,
  ⟨some 55, .bsl (.ints .u32 [0]) 1 1 [(0, 1, (.t 54))], none⟩,
  ⟨some 56, .mv (.t 6), none⟩,
  ⟨some 57, .app (.ints .u32 [0]) 4 (.t 55) (.t 56), none⟩,
  ⟨some 6, .mv (.t 57), none⟩]))))
 (.reg [⟨some 16, .mv (.t 8), none⟩,
  ⟨some 17, .bin .sub [] (.t 16) (.c (.int .i64 1)), none⟩,
  ⟨some 8, .mv (.t 17), none⟩]))))))
 (.seq (.reg [⟨some 58, .mv (.t 6), none⟩,
  ⟨some 59, .bld [(.bool false), .nils] [(1, 1, (.t 58))], none⟩,
  ⟨some 60, .call 88 [(.t 59)], none⟩,
  ⟨some 61, .fld 1 none (.t 60), none⟩,
  ⟨some 62, .mv (.t 7), none⟩,
  ⟨some 4, .mv (.t 61), none⟩,
  ⟨some 5, .mv (.t 62), none⟩])
 (.ret)))),
 [.tmp 4, .tmp 5], true⟩
/-- ephemeris/ephemerisref01.plus -/
def M84 : MFunc := ⟨.seq (.reg [⟨some 4, .mv (.c .nils), none⟩])
 (.seq (.reg [⟨some 5, .mv (.c .nils), none⟩])
 (.seq (.reg [⟨some 6, .mv (.c (.int .u32 0)), none⟩])
 (.seq (.seq (.reg [⟨some 7, .mv (.c (.int .i64 0)), none⟩])
 (.block 0 [5]
 (.loop [0, 1, 5, 6, 7]
 (.seq (.seq (.reg [⟨some 9, .mv (.t 7), none⟩,
  ⟨some 10, .mv (.t 0), none⟩,
  ⟨some 11, .len none (.t 10), none⟩,
  ⟨some 12, .bin .lss [] (.t 9) (.t 11), none⟩,
  ⟨some 13, .mv (.t 12), none⟩,
  ⟨some 14, .mv (.t 7), some (13, false)⟩,
  ⟨some 15, .mv (.t 1), some (13, false)⟩,
  ⟨some 16, .len none (.t 15), some (13, false)⟩,
  ⟨some 17, .bin .lss [] (.t 14) (.t 16), some (13, false)⟩,
  ⟨some 18, .pick (.t 13) (.c (.bool true)) (.t 17), none⟩,
  ⟨some 19, .mv (.t 18), none⟩,
  ⟨some 20, .mv (.t 6), some (19, false)⟩,
  ⟨some 21, .bin .gtr [] (.t 20) (.c (.int .u32 0)), some (19, false)⟩,
  ⟨some 22, .pick (.t 19) (.c (.bool true)) (.t 21), none⟩])
 (.cond (.t 22)
 (.skip)
 (.exit 0)))
 (.seq (.block 1 [0, 1, 5, 6, 7]
 (.seq (.reg [⟨some 25, .mv (.t 0), none⟩,
  ⟨some 26, .mv (.t 7), none⟩,
  ⟨some 27, .call 93 [(.t 25), (.t 26)], none⟩,
  ⟨some 28, .mv (.t 1), none⟩,
  ⟨some 29, .mv (.t 7), none⟩,
  ⟨some 30, .call 93 [(.t 28), (.t 29)], none⟩,
  ⟨some 31, .bin .add [] (.t 27) (.t 30), none⟩,
  ⟨some 32, .mv (.t 6), none⟩,
  ⟨some 33, .bin .add [] (.t 31) (.t 32), none⟩,
  ⟨some 8, .mv (.t 33), none⟩])
 (.seq (.reg [⟨some 34, .mv (.t 5), none⟩,
  ⟨some 35, .mv (.t 8), none⟩,
  ⟨some 36, .bin .rem [] (.t 35) (.c (.int .u32 65536)), none⟩,
  ⟨some 37, .bsl (.ints .u32 [0]) 1 1 [(0, 1, (.t 36))], none⟩,
  ⟨some 38, .app (.ints .u32 [0]) 4 (.t 34) (.t 37), none⟩,
  ⟨some 5, .mv (.t 38), none⟩])
 (.reg [⟨some 39, .mv (.t 8), none⟩,
  ⟨some 40, .bin .quo [] (.t 39) (.c (.int .u32 65536)), none⟩,
  ⟨some 6, .mv (.t 40), none⟩]))))
 (.reg [⟨some 23, .mv (.t 7), none⟩,
  ⟨some 24, .bin .add [] (.t 23) (.c (.int .i64 1)), none⟩,
  ⟨some 7, .mv (.t 24), none⟩]))))))
 (.seq (.reg [⟨some 41, .mv (.t 5), none⟩,
  ⟨some 4, .mv (.t 41), none⟩])
 (.ret))))),
 [.tmp 4], true⟩
/-- ephemeris/ephemerisref01.told -/
def M85 : MFunc := ⟨.seq (.reg [⟨some 1, .bx none 2 (.t 0), none⟩,
  ⟨some 2, .mv (.c (.int .i64 0)), none⟩,
  ⟨some 3, .mv (.c (.int .i64 0)), none⟩])
 (.seq (.reg [⟨some 7, .ld (some 2) (.t 1), none⟩,
  ⟨some 8, .call 77 [(.t 7)], none⟩,
  ⟨some 6, .mv (.t 8), none⟩,
  ⟨some 9, .ex 0 (.t 6), none⟩,
  ⟨some 10, .ex 1 (.t 6), none⟩,
  ⟨some 4, .mv (.t 9), none⟩,
  ⟨some 5, .mv (.t 10), none⟩])
 (.seq (.seq (.reg [⟨some 11, .mv (.t 5), none⟩,
  ⟨some 12, .un .not (.t 11), none⟩])
 (.cond (.t 12)
 (.seq (.reg [⟨some 2, .mv (.c (.int .i64 0)), none⟩,
  ⟨some 3, .mv (.c (.int .i64 20)), none⟩])
 (.ret))
 (.skip)))
 (.seq (.reg [⟨some 13, .mv (.t 4), none⟩,
  ⟨some 2, .mv (.t 13), none⟩,
  ⟨some 3, .mv (.c (.int .i64 0)), none⟩])
 (.ret)))),
 [.tmp 2, .tmp 3], true⟩
/-- ephemeris/fix.size -/
def M86 : MFunc := ⟨.seq (.reg [⟨some 2, .mv (.c (.int .u64 0)), none⟩])
 (.seq (.seq (.reg [⟨some 3, .mv (.t 0), none⟩,
  ⟨some 4, .bin .lss [] (.t 3) (.c (.int .i64 0)), none⟩])
 (.cond (.t 4)
 (.seq (.reg [⟨some 5, .mv (.t 0), none⟩,
  ⟨some 6, .ci .u64 (.t 5), none⟩,
  ⟨some 7, .un .neg (.t 6), none⟩,
  ⟨some 2, .mv (.t 7), none⟩])
 (.ret))
 (.skip)))
 (.seq (.reg [⟨some 8, .mv (.t 0), none⟩,
  ⟨some 9, .ci .u64 (.t 8), none⟩,
  ⟨some 2, .mv (.t 9), none⟩])
 (.ret))),
 [.tmp 2], true⟩
/-- ephemeris/fix.signed -/
def M87 : MFunc := ⟨.seq (.reg [⟨some 4, .mv (.c (.int .i64 0)), none⟩,
  ⟨some 5, .mv (.c (.bool false)), none⟩])
 (.seq (.seq (.reg [⟨some 6, .mv (.t 1), none⟩])
 (.cond (.t 6)
 (.seq (.reg [⟨some 7, .mv (.t 0), none⟩,
  ⟨some 8, .un .neg (.t 7), none⟩,
  ⟨some 9, .ci .i64 (.t 8), none⟩,
  ⟨some 10, .mv (.t 0), none⟩,
  ⟨some 11, .bin .leq [] (.t 10) (.c (.int .u64 9223372036854775808)), none⟩,
  ⟨some 4, .mv (.t 9), none⟩,
  ⟨some 5, .mv (.t 11), none⟩])
 (.ret))
 (.skip)))
 (.seq (.reg [⟨some 12, .mv (.t 0), none⟩,
  ⟨some 13, .ci .i64 (.t 12), none⟩,
  ⟨some 14, .mv (.t 0), none⟩,
  ⟨some 15, .bin .lss [] (.t 14) (.c (.int .u64 9223372036854775808)), none⟩,
  ⟨some 4, .mv (.t 13), none⟩,
  ⟨some 5, .mv (.t 15), none⟩])
 (.ret))),
 [.tmp 4, .tmp 5], true⟩
/-- ephemeris/ephemerisref01.trim -/
def M88 : MFunc := ⟨.seq (.reg [⟨some 1, .bx none 2 (.t 0), none⟩,
  ⟨some 2, .al (.vals [(.bool false), .nils]), none⟩])
 (.seq (.block 0 [1, 2]
 (.loop [1, 2]
 (.seq (.seq (.reg [⟨some 3, .fa 1 (.t 1), none⟩,
  ⟨some 4, .ld none (.t 3), none⟩,
  ⟨some 5, .len none (.t 4), none⟩,
  ⟨some 6, .bin .gtr [] (.t 5) (.c (.int .i64 0)), none⟩,
  ⟨some 7, .mv (.t 6), none⟩,
  ⟨some 8, .fa 1 (.t 1), some (7, true)⟩,
  ⟨some 9, .ld none (.t 8), some (7, true)⟩,
  ⟨some 10, .fa 1 (.t 1), some (7, true)⟩,
  ⟨some 11, .ld none (.t 10), some (7, true)⟩,
  ⟨some 12, .len none (.t 11), some (7, true)⟩,
  ⟨some 13, .bin .sub [] (.t 12) (.c (.int .i64 1)), some (7, true)⟩,
  ⟨some 14, .ia none 1 (.t 9) (.t 13), some (7, true)⟩,
  ⟨some 15, .ld none (.t 14), some (7, true)⟩,
  ⟨some 16, .bin .eql [] (.t 15) (.c (.int .u32 0)), some (7, true)⟩,
  ⟨some 17, .pick (.t 7) (.t 16) (.c (.bool false)), none⟩])
 (.cond (.t 17)
 (.skip)
 (.exit 0)))
 (.block 1 [1, 2]
 (.reg [⟨some 18, .fa 1 (.t 1), none⟩,
  ⟨some 19, .ld none (.t 18), none⟩,
  ⟨some 20, .fa 1 (.t 1), none⟩,
  ⟨some 21, .ld none (.t 20), none⟩,
  ⟨some 22, .len none (.t 21), none⟩,
  ⟨some 23, .bin .sub [] (.t 22) (.c (.int .i64 1)), none⟩,
  ⟨some 24, .slc none 1 (.t 19) none (some (.t 23)) none, none⟩,
  ⟨some 25, .fa 1 (.t 1), none⟩,
  ⟨none, .st 1 (.t 25) (.t 24), none⟩])))))
 (.seq (.seq (.reg [⟨some 26, .fa 1 (.t 1), none⟩,
  ⟨some 27, .ld none (.t 26), none⟩,
  ⟨some 28, .len none (.t 27), none⟩,
  ⟨some 29, .bin .eql [] (.t 28) (.c (.int .i64 0)), none⟩])
 (.cond (.t 29)
 (.reg [⟨some 30, .fa 0 (.t 1), none⟩,
  ⟨none, .st 1 (.t 30) (.c (.bool false)), none⟩])
 (.skip)))
 (.seq (.reg [⟨some 31, .ld (some 2) (.t 1), none⟩,
  ⟨none, .st 2 (.t 2) (.t 31), none⟩])
 (.ret)))),
 [.cell 2 (some 2)], true⟩
/-- ephemeris/ephemerisref01.Less -/
def M89 : MFunc := ⟨.seq (.reg [⟨some 4, .mv (.c (.bool false)), none⟩])
 (.seq (.seq (.reg [⟨some 6, .mv (.t 0), none⟩,
  ⟨some 7, .len none (.t 6), none⟩,
  ⟨some 8, .mv (.t 1), none⟩,
  ⟨some 9, .len none (.t 8), none⟩,
  ⟨some 10, .bin .neq [] (.t 7) (.t 9), none⟩])
 (.cond (.t 10)
 (.seq (.reg [⟨some 11, .mv (.t 0), none⟩,
  ⟨some 12, .len none (.t 11), none⟩,
  ⟨some 13, .mv (.t 1), none⟩,
  ⟨some 14, .len none (.t 13), none⟩,
  ⟨some 15, .bin .lss [] (.t 12) (.t 14), none⟩,
  ⟨some 4, .mv (.t 15), none⟩])
 (.ret))
 (.skip)))
 (.seq (.seq (.reg [⟨some 16, .mv (.t 0), none⟩,
  ⟨some 17, .len none (.t 16), none⟩,
  ⟨some 18, .bin .sub [] (.t 17) (.c (.int .i64 1)), none⟩,
  ⟨some 5, .mv (.t 18), none⟩])
 (.block 0 []
 (.loop [0, 1, 5]
 (.seq (.seq (.reg [⟨some 19, .mv (.t 5), none⟩,
  ⟨some 20, .bin .geq [] (.t 19) (.c (.int .i64 0)), none⟩])
 (.cond (.t 20)
 (.skip)
 (.exit 0)))
 (.seq (.block 1 [0, 1, 5]
 (.seq (.regd [(0, ⟨some 23, .mv (.t 0), none⟩),
  (1, ⟨some 24, .mv (.t 5), none⟩),
  (2, ⟨some 25, .ia none 1 (.t 23) (.t 24), none⟩),
  (3, ⟨some 26, .ld none (.t 25), none⟩),
  (4, ⟨some 27, .mv (.t 1), none⟩),
  (5, ⟨some 28, .mv (.t 5), none⟩),
  (6, ⟨some 29, .ia none 1 (.t 27) (.t 28), none⟩),
  (7, ⟨some 30, .ld none (.t 29), none⟩),
  (8, ⟨some 31, .bin .neq [] (.t 26) (.t 30), none⟩)] [])
 (.cond (.t 31)
 (.seq (.regd [(0, ⟨some 32, .mv (.t 0), none⟩),
  (1, ⟨some 33, .mv (.t 5), none⟩),
  (2, ⟨some 34, .ia none 1 (.t 32) (.t 33), none⟩),
  (3, ⟨some 35, .ld none (.t 34), none⟩),
  (4, ⟨some 36, .mv (.t 1), none⟩),
  (5, ⟨some 37, .mv (.t 5), none⟩),
  (6, ⟨some 38, .ia none 1 (.t 36) (.t 37), none⟩),
  (7, ⟨some 39, .ld none (.t 38), none⟩),
  (8, ⟨some 40, .bin .lss [] (.t 35) (.t 39), none⟩),
  (9, ⟨some 4, .mv (.t 40), none⟩)] [])
 (.ret))
 (.skip))))
 (.reg [⟨some 21, .mv (.t 5), none⟩,
  ⟨some 22, .bin .sub [] (.t 21) (.c (.int .i64 1)), none⟩,
  ⟨some 5, .mv (.t 22), none⟩]))))))
 (.seq (.reg [⟨some 4, .mv (.c (.bool false)), none⟩])
 (.ret)))),
 [.tmp 4], true⟩
/-- ephemeris/ephemerisref01.less -/
def M90 : MFunc := ⟨.seq (.reg [⟨some 4, .mv (.c .nils), none⟩])
 (.seq (.reg [⟨some 5, .mv (.c .nils), none⟩])
 (.seq (.reg [⟨some 6, .mv (.c (.int .u32 0)), none⟩])
 (.seq (.seq (.reg [⟨some 7, .mv (.c (.int .i64 0)), none⟩])
 (.block 0 [5]
 (.loop [0, 1, 5, 6, 7]
 (.seq (.seq (.reg [⟨some 9, .mv (.t 7), none⟩,
  ⟨some 10, .mv (.t 0), none⟩,
  ⟨some 11, .len none (.t 10), none⟩,
  ⟨some 12, .bin .lss [] (.t 9) (.t 11), none⟩])
 (.cond (.t 12)
 (.skip)
 (.exit 0)))
 (.seq (.block 1 [0, 1, 5, 6, 7]
 (.seq (.regd [(0, ⟨some 15, .mv (.t 0), none⟩),
  (1, ⟨some 16, .mv (.t 7), none⟩),
  (2, ⟨some 17, .ia none 1 (.t 15) (.t 16), none⟩),
  (3, ⟨some 18, .ld none (.t 17), none⟩),
  (4, ⟨some 19, .bin .add [] (.c (.int .u32 65536)) (.t 18), none⟩),
  (5, ⟨some 20, .mv (.t 1), none⟩),
  (6, ⟨some 21, .mv (.t 7), none⟩),
  (7, ⟨some 22, .call 93 [(.t 20), (.t 21)], none⟩),
  (8, ⟨some 23, .bin .sub [] (.t 19) (.t 22), none⟩),
  (9, ⟨some 24, .mv (.t 6), none⟩),
  (10, ⟨some 25, .bin .sub [] (.t 23) (.t 24), none⟩),
  (11, ⟨some 8, .mv (.t 25), none⟩)] [(3, 7)])
 (.seq (.reg [⟨some 26, .mv (.t 5), none⟩,
  ⟨some 27, .mv (.t 8), none⟩,
  ⟨some 28, .bin .rem [] (.t 27) (.c (.int .u32 65536)), none⟩,
  ⟨some 29, .bsl (.ints .u32 [0]) 1 1 [(0, 1, (.t 28))], none⟩,
  ⟨some 30, .app (.ints .u32 [0]) 4 (.t 26) (.t 29), none⟩,
  ⟨some 5, .mv (.t 30), none⟩])
 (.reg [⟨some 31, .mv (.t 8), none⟩,
  ⟨some 32, .bin .quo [] (.t 31) (.c (.int .u32 65536)), none⟩,
  ⟨some 33, .bin .sub [] (.c (.int .u32 1)) (.t 32), none⟩,
  ⟨some 6, .mv (.t 33), none⟩]))))
 (.reg [⟨some 13, .mv (.t 7), none⟩,
  ⟨some 14, .bin .add [] (.t 13) (.c (.int .i64 1)), none⟩,
  ⟨some 7, .mv (.t 14), none⟩]))))))
 (.seq (.reg [⟨some 34, .mv (.t 5), none⟩,
  ⟨some 4, .mv (.t 34), none⟩])
 (.ret))))),
 [.tmp 4], true⟩
/-- math/bits.Len64 -/
def M91 : MFunc := ⟨.seq (.reg [⟨some 2, .mv (.c (.int .i64 0)), none⟩])
 (.seq (.seq (.reg [⟨some 3, .mv (.t 0), none⟩,
  ⟨some 4, .bin .geq [] (.t 3) (.c (.int .u64 4294967296)), none⟩])
 (.cond (.t 4)
 (.seq (.reg [⟨some 5, .mv (.t 0), none⟩,
  ⟨some 6, .bin .shr [] (.t 5) (.c (.int .u64 32)), none⟩,
  ⟨some 0, .mv (.t 6), none⟩])
 (.reg [⟨some 2, .mv (.c (.int .i64 32)), none⟩]))
 (.skip)))
 (.seq (.seq (.reg [⟨some 7, .mv (.t 0), none⟩,
  ⟨some 8, .bin .geq [] (.t 7) (.c (.int .u64 65536)), none⟩])
 (.cond (.t 8)
 (.seq (.reg [⟨some 9, .mv (.t 0), none⟩,
  ⟨some 10, .bin .shr [] (.t 9) (.c (.int .u64 16)), none⟩,
  ⟨some 0, .mv (.t 10), none⟩])
 (.reg [⟨some 11, .mv (.t 2), none⟩,
  ⟨some 12, .bin .add [] (.t 11) (.c (.int .i64 16)), none⟩,
  ⟨some 2, .mv (.t 12), none⟩]))
 (.skip)))
 (.seq (.seq (.reg [⟨some 13, .mv (.t 0), none⟩,
  ⟨some 14, .bin .geq [] (.t 13) (.c (.int .u64 256)), none⟩])
 (.cond (.t 14)
 (.seq (.reg [⟨some 15, .mv (.t 0), none⟩,
  ⟨some 16, .bin .shr [] (.t 15) (.c (.int .u64 8)), none⟩,
  ⟨some 0, .mv (.t 16), none⟩])
 (.reg [⟨some 17, .mv (.t 2), none⟩,
  ⟨some 18, .bin .add [] (.t 17) (.c (.int .i64 8)), none⟩,
  ⟨some 2, .mv (.t 18), none⟩]))
 (.skip)))
 (.seq (.reg [⟨some 19, .mv (.t 2), none⟩,
  ⟨some 20, .mv (.t 0), none⟩,
  ⟨some 21, .ci .u8 (.t 20), none⟩,
  ⟨some 22, .ixs (.c (.str ⟨#[0, 1, 2, 2, 3, 3, 3, 3, 4, 4, 4, 4, 4, 4, 4, 4, 5, 5, 5, 5, 5, 5, 5, 5, 5, 5, 5, 5, 5, 5, 5, 5, 6, 6, 6, 6, 6, 6, 6, 6, 6, 6, 6, 6, 6, 6, 6, 6, 6, 6, 6, 6, 6, 6, 6, 6, 6, 6, 6, 6, 6, 6, 6, 6, 7, 7, 7, 7, 7, 7, 7, 7, 7, 7, 7, 7, 7, 7, 7, 7, 7, 7, 7, 7, 7, 7, 7, 7, 7, 7, 7, 7, 7, 7, 7, 7, 7, 7, 7, 7, 7, 7, 7, 7, 7, 7, 7, 7, 7, 7, 7, 7, 7, 7, 7, 7, 7, 7, 7, 7, 7, 7, 7, 7, 7, 7, 7, 7, 8, 8, 8, 8, 8, 8, 8, 8, 8, 8, 8, 8, 8, 8, 8, 8, 8, 8, 8, 8, 8, 8, 8, 8, 8, 8, 8, 8, 8, 8, 8, 8, 8, 8, 8, 8, 8, 8, 8, 8, 8, 8, 8, 8, 8, 8, 8, 8, 8, 8, 8, 8, 8, 8, 8, 8, 8, 8, 8, 8, 8, 8, 8, 8, 8, 8, 8, 8, 8, 8, 8, 8, 8, 8, 8, 8, 8, 8, 8, 8, 8, 8, 8, 8, 8, 8, 8, 8, 8, 8, 8, 8, 8, 8, 8, 8, 8, 8, 8, 8, 8, 8, 8, 8, 8, 8, 8, 8, 8, 8, 8, 8, 8, 8, 8, 8, 8, 8, 8, 8, 8, 8, 8, 8, 8, 8, 8, 8]⟩)) (.t 21), none⟩,
  ⟨some 23, .ci .i64 (.t 22), none⟩,
  ⟨some 24, .bin .add [] (.t 19) (.t 23), none⟩,
  ⟨some 2, .mv (.t 24), none⟩])
 (.ret))))),
 [.tmp 2], true⟩
/-- slices.IndexFunc[[]ephemeris/api.Span,ephemeris/api.Span] -/
def M92 : MFunc := ⟨.seq (.reg [⟨some 4, .mv (.c (.int .i64 0)), none⟩])
 (.seq (.seq (.reg [⟨some 6, .mv (.t 0), none⟩,
  ⟨some 7, .len none (.t 6), none⟩,
  ⟨some 8, .mv (.c (.int .i64 0)), none⟩])
 (.block 0 []
 (.loop [0, 1, 7, 8]
 (.seq (.reg [⟨some 9, .bin .lss [] (.t 8) (.t 7), none⟩])
 (.seq (.cond (.t 9)
 (.skip)
 (.exit 0))
 (.seq (.block 1 [0, 1, 7, 8]
 (.seq (.reg [⟨some 10, .mv (.t 8), none⟩,
  ⟨some 5, .mv (.t 10), none⟩])
 (.seq (.reg [⟨some 11, .mv (.t 1), none⟩,
  ⟨some 12, .mv (.t 0), none⟩,
  ⟨some 13, .mv (.t 5), none⟩,
  ⟨some 14, .ia none 3 (.t 12) (.t 13), none⟩,
  ⟨some 15, .ld (some 3) (.t 14), none⟩,
  ⟨some 16, .calld (.t 11) [(.t 15)], none⟩])
 (.cond (.t 16)
 (.seq (.reg [⟨some 17, .mv (.t 5), none⟩,
  ⟨some 4, .mv (.t 17), none⟩])
 (.ret))
 (.skip)))))
 (.reg [⟨some 18, .bin .add [] (.t 8) (.c (.int .i64 1)), none⟩,
  ⟨some 8, .mv (.t 18), none⟩])))))))
 (.seq (.reg [⟨some 4, .mv (.c (.int .i64 (-1))), none⟩])
 (.ret))),
 [.tmp 4], true⟩
/-- ephemeris/ephemerisref01.at -/
def M93 : MFunc := ⟨.seq (.reg [⟨some 4, .mv (.c (.int .u32 0)), none⟩])
 (.seq (.seq (.reg [⟨some 5, .mv (.t 1), none⟩,
  ⟨some 6, .mv (.t 0), none⟩,
  ⟨some 7, .len none (.t 6), none⟩,
  ⟨some 8, .bin .lss [] (.t 5) (.t 7), none⟩])
 (.cond (.t 8)
 (.seq (.reg [⟨some 9, .mv (.t 0), none⟩,
  ⟨some 10, .mv (.t 1), none⟩,
  ⟨some 11, .ia none 1 (.t 9) (.t 10), none⟩,
  ⟨some 12, .ld none (.t 11), none⟩,
  ⟨some 4, .mv (.t 12), none⟩])
 (.ret))
 (.skip)))
 (.seq (.reg [⟨some 4, .mv (.c (.int .u32 0)), none⟩])
 (.ret))),
 [.tmp 4], true⟩
def MPL : List (Nat × MFunc) := [(2, M2), (3, M3), (4, M4), (5, M5), (6, M6), (7, M7), (8, M8), (9, M9), (10, M10), (11, M11), (12, M12), (13, M13), (14, M14), (15, M15), (16, M16), (17, M17), (18, M18), (19, M19), (20, M20), (21, M21), (22, M22), (23, M23), (24, M24), (25, M25), (26, M26), (27, M27), (28, M28), (29, M29), (30, M30), (31, M31), (32, M32), (33, M33), (35, M35), (36, M36), (37, M37), (38, M38), (39, M39), (40, M40), (41, M41), (42, M42), (43, M43), (44, M44), (45, M45), (46, M46), (47, M47), (48, M48), (49, M49), (50, M50), (51, M51), (52, M52), (53, M53), (54, M54), (55, M55), (56, M56), (57, M57), (58, M58), (60, M60), (61, M61), (62, M62), (63, M63), (64, M64), (65, M65), (66, M66), (67, M67), (68, M68), (69, M69), (70, M70), (71, M71), (72, M72), (73, M73), (74, M74), (75, M75), (76, M76), (77, M77), (78, M78), (79, M79), (80, M80), (81, M81), (82, M82), (83, M83), (84, M84), (85, M85), (86, M86), (87, M87), (88, M88), (89, M89), (90, M90), (91, M91), (92, M92), (93, M93)]
def MP (f : Nat) : Option MFunc := MPL.lookup f
def GL : List Nat := [0, 1]
noncomputable def X : Ctx := ⟨Go.Proofs.Try.prog, 2, fun i => GL.getD i 0⟩
end Go.Proofs.YtcpiohklljppaaaW.AI.D
