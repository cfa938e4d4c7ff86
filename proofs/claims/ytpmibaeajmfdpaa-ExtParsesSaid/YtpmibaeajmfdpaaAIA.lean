import Derived.Test.YtpmibaeajmfdpaaAISem17
import Derived.Test.YtpmibaeajmfdpaaProg
namespace Go.Proofs.YtpmibaeajmfdpaaW.AI.A
open Go Go.Proofs.YtpmibaeajmfdpaaW.AI
/-- gosem.cut.init -/
def M2 : MFunc := ⟨.reg [⟨some 0, .call 1 [], none⟩],
 [], true⟩
/-- ephemeris/ephemerislaw05.ExtFinds -/
def M3 : MFunc := ⟨.seq (.reg [⟨some 4, .mv (.c (.bool false)), none⟩])
 (.seq (.reg [⟨some 9, .mv (.t 0), none⟩,
  ⟨some 10, .call 9 [(.t 9)], none⟩,
  ⟨some 0, .mv (.t 10), none⟩])
 (.seq (.reg [⟨some 12, .mv (.t 0), none⟩,
  ⟨some 13, .mv (.t 1), none⟩,
  ⟨some 14, .call 10 [(.t 12), (.t 13)], none⟩,
  ⟨some 11, .mv (.t 14), none⟩,
  ⟨some 15, .ex 0 (.t 11), none⟩,
  ⟨some 16, .ex 1 (.t 11), none⟩,
  ⟨some 5, .mv (.t 15), none⟩,
  ⟨some 6, .mv (.t 16), none⟩])
 (.seq (.seq (.reg [⟨some 17, .mv (.t 0), none⟩,
  ⟨some 18, .len none (.t 17), none⟩,
  ⟨some 19, .mv (.c (.int .i64 0)), none⟩])
 (.block 0 [5, 6]
 (.loop [1, 5, 6, 17, 18, 19]
 (.seq (.reg [⟨some 20, .bin .lss [] (.t 19) (.t 18), none⟩])
 (.seq (.cond (.t 20)
 (.skip)
 (.exit 0))
 (.seq (.block 1 [1, 5, 6, 17, 18, 19]
 (.seq (.reg [⟨some 21, .ia none 2 (.t 17) (.t 19), none⟩,
  ⟨some 22, .ld (some 2) (.t 21), none⟩,
  ⟨some 8, .al (.vals [(.int .u16 0), .nils]), none⟩,
  ⟨none, .st 2 (.t 8) (.t 22), none⟩])
 (.seq (.reg [⟨some 23, .fa 0 (.t 8), none⟩,
  ⟨some 24, .ld none (.t 23), none⟩,
  ⟨some 25, .mv (.t 1), none⟩,
  ⟨some 26, .bin .eql [] (.t 24) (.t 25), none⟩])
 (.cond (.t 26)
 (.seq (.reg [⟨some 27, .call 11 [], none⟩,
  ⟨some 28, .mv (.t 27), none⟩,
  ⟨some 29, .mv (.t 6), some (28, true)⟩,
  ⟨some 30, .pick (.t 28) (.t 29) (.c (.bool false)), none⟩,
  ⟨some 31, .mv (.t 30), none⟩,
  ⟨some 32, .mv (.t 5), some (31, true)⟩,
  ⟨some 33, .fa 1 (.t 8), some (31, true)⟩,
  ⟨some 34, .ld none (.t 33), some (31, true)⟩,
  ⟨some 35, .call 12 [(.t 32), (.t 34)], some (31, true)⟩,
  ⟨some 36, .pick (.t 31) (.t 35) (.c (.bool false)), none⟩,
  ⟨some 4, .mv (.t 36), none⟩])
 (.ret))
 (.skip)))))
 (.reg [⟨some 37, .bin .add [] (.t 19) (.c (.int .i64 1)), none⟩,
  ⟨some 19, .mv (.t 37), none⟩])))))))
 (.seq (.reg [⟨some 38, .call 11 [], none⟩,
  ⟨some 39, .mv (.t 38), none⟩,
  ⟨some 40, .mv (.t 6), some (39, true)⟩,
  ⟨some 41, .un .not (.t 40), some (39, true)⟩,
  ⟨some 42, .pick (.t 39) (.t 41) (.c (.bool false)), none⟩,
  ⟨some 43, .mv (.t 42), none⟩,
  ⟨some 44, .mv (.t 5), some (43, true)⟩,
  ⟨some 45, .len none (.t 44), some (43, true)⟩,
  ⟨some 46, .bin .eql [] (.t 45) (.c (.int .i64 0)), some (43, true)⟩,
  ⟨some 47, .pick (.t 43) (.t 46) (.c (.bool false)), none⟩,
  ⟨some 4, .mv (.t 47), none⟩])
 (.ret))))),
 [.tmp 4], true⟩
/-- ephemeris/ephemerislaw05.ExtParses -/
def M4 : MFunc := ⟨.seq (.reg [⟨some 2, .mv (.c (.bool false)), none⟩])
 (.seq (.reg [⟨some 14, .mv (.t 0), none⟩,
  ⟨some 15, .mv (.t 0), none⟩,
  ⟨some 16, .len none (.t 15), none⟩,
  ⟨some 17, .mnx false [(.t 16), (.c (.int .i64 2000))], none⟩,
  ⟨some 18, .slc none 1 (.t 14) none (some (.t 17)) none, none⟩,
  ⟨some 0, .mv (.t 18), none⟩])
 (.seq (.reg [⟨some 19, .mv (.t 0), none⟩,
  ⟨some 20, .call 13 [(.t 19)], none⟩,
  ⟨some 3, .mv (.t 20), none⟩])
 (.seq (.reg [⟨some 22, .mv (.t 3), none⟩,
  ⟨some 23, .call 14 [(.t 22)], none⟩,
  ⟨some 21, .mv (.t 23), none⟩,
  ⟨some 24, .ex 0 (.t 21), none⟩,
  ⟨some 25, .ex 1 (.t 21), none⟩,
  ⟨some 26, .ex 2 (.t 21), none⟩,
  ⟨some 4, .mv (.t 24), none⟩,
  ⟨some 5, .mv (.t 25), none⟩,
  ⟨some 6, .mv (.t 26), none⟩])
 (.seq (.reg [⟨some 28, .mv (.t 0), none⟩,
  ⟨some 29, .call 15 [(.t 28)], none⟩,
  ⟨some 27, .mv (.t 29), none⟩,
  ⟨some 30, .ex 0 (.t 27), none⟩,
  ⟨some 31, .ex 1 (.t 27), none⟩,
  ⟨some 32, .ex 2 (.t 27), none⟩,
  ⟨some 7, .mv (.t 30), none⟩,
  ⟨some 8, .mv (.t 31), none⟩,
  ⟨some 9, .mv (.t 32), none⟩])
 (.seq (.reg [⟨some 33, .mv (.t 4), none⟩,
  ⟨some 34, .mv (.t 7), none⟩,
  ⟨some 35, .call 16 [(.t 33), (.t 34)], none⟩,
  ⟨some 36, .mv (.t 35), none⟩,
  ⟨some 37, .mv (.t 4), some (36, true)⟩,
  ⟨some 38, .mv (.t 7), some (36, true)⟩,
  ⟨some 39, .call 17 [(.t 37), (.t 38)], some (36, true)⟩,
  ⟨some 40, .pick (.t 36) (.t 39) (.c (.bool false)), none⟩,
  ⟨some 41, .mv (.t 40), none⟩,
  ⟨some 42, .mv (.t 5), some (41, true)⟩,
  ⟨some 43, .mv (.t 8), some (41, true)⟩,
  ⟨some 44, .call 12 [(.t 42), (.t 43)], some (41, true)⟩,
  ⟨some 45, .pick (.t 41) (.t 44) (.c (.bool false)), none⟩,
  ⟨some 10, .mv (.t 45), none⟩])
 (.seq (.seq (.reg [⟨some 46, .mv (.t 4), none⟩,
  ⟨some 47, .len none (.t 46), none⟩,
  ⟨some 48, .mv (.c (.int .i64 0)), none⟩])
 (.block 0 [0, 3, 6, 9, 10]
 (.loop [0, 3, 6, 9, 10, 46, 47, 48]
 (.seq (.reg [⟨some 49, .bin .lss [] (.t 48) (.t 47), none⟩])
 (.seq (.cond (.t 49)
 (.skip)
 (.exit 0))
 (.seq (.block 1 [0, 3, 6, 9, 10, 46, 47, 48]
 (.seq (.reg [⟨some 50, .ia none 2 (.t 46) (.t 48), none⟩,
  ⟨some 51, .ld (some 2) (.t 50), none⟩,
  ⟨some 12, .al (.vals [(.int .u16 0), .nils]), none⟩,
  ⟨none, .st 2 (.t 12) (.t 51), none⟩])
 (.seq (.reg [⟨some 52, .fa 1 (.t 12), none⟩,
  ⟨some 53, .ld none (.t 52), none⟩,
  ⟨some 54, .len none (.t 53), none⟩,
  ⟨some 55, .mv (.c (.int .i64 0)), none⟩])
 (.block 2 [0, 3, 6, 9, 10, 46, 47, 48]
 (.loop [0, 3, 6, 9, 10, 12, 46, 47, 48, 54, 55]
 (.seq (.reg [⟨some 56, .bin .lss [] (.t 55) (.t 54), none⟩])
 (.seq (.cond (.t 56)
 (.skip)
 (.exit 2))
 (.seq (.block 3 [0, 3, 6, 9, 10, 12, 46, 47, 48, 54, 55]
 (.seq (.reg [⟨some 57, .mv (.t 55), none⟩,
  ⟨some 13, .mv (.t 57), none⟩])
 (.reg [⟨some 58, .fa 1 (.t 12), none⟩,
  ⟨some 59, .ld none (.t 58), none⟩,
  ⟨some 60, .mv (.t 13), none⟩,
  ⟨some 61, .ia none 1 (.t 59) (.t 60), none⟩,
  ⟨some 62, .ld none (.t 61), none⟩,
  ⟨some 63, .bin .xor [] (.t 62) (.c (.int .u8 255)), none⟩,
  ⟨some 64, .ia none 1 (.t 59) (.t 60), none⟩,
  ⟨none, .st 1 (.t 64) (.t 63), none⟩])))
 (.reg [⟨some 65, .bin .add [] (.t 55) (.c (.int .i64 1)), none⟩,
  ⟨some 55, .mv (.t 65), none⟩])))))))))
 (.reg [⟨some 66, .bin .add [] (.t 48) (.c (.int .i64 1)), none⟩,
  ⟨some 48, .mv (.t 66), none⟩])))))))
 (.seq (.reg [⟨some 67, .call 11 [], none⟩,
  ⟨some 68, .mv (.t 67), none⟩,
  ⟨some 69, .mv (.t 10), some (68, true)⟩,
  ⟨some 70, .pick (.t 68) (.t 69) (.c (.bool false)), none⟩,
  ⟨some 71, .mv (.t 70), none⟩,
  ⟨some 72, .mv (.t 6), some (71, true)⟩,
  ⟨some 73, .mv (.t 9), some (71, true)⟩,
  ⟨some 74, .bin .eql [] (.t 72) (.t 73), some (71, true)⟩,
  ⟨some 75, .pick (.t 71) (.t 74) (.c (.bool false)), none⟩,
  ⟨some 76, .mv (.t 75), none⟩,
  ⟨some 77, .mv (.t 3), some (76, true)⟩,
  ⟨some 78, .mv (.t 0), some (76, true)⟩,
  ⟨some 79, .call 12 [(.t 77), (.t 78)], some (76, true)⟩,
  ⟨some 80, .pick (.t 76) (.t 79) (.c (.bool false)), none⟩,
  ⟨some 2, .mv (.t 80), none⟩])
 (.ret)))))))),
 [.tmp 2], true⟩
/-- ephemeris/ephemerislaw05.ExtKnown -/
def M5 : MFunc := ⟨.seq (.reg [⟨some 0, .mv (.c (.bool false)), none⟩])
 (.seq (.reg [⟨some 1, .mv (.f 18), none⟩])
 (.seq (.reg [⟨some 31, .mv (.t 1), none⟩,
  ⟨some 32, .calld (.t 31) [(.c (.int .i64 8))], none⟩,
  ⟨some 33, .call 19 [(.t 32)], none⟩,
  ⟨some 30, .mv (.t 33), none⟩,
  ⟨some 34, .ex 0 (.t 30), none⟩,
  ⟨some 35, .ex 1 (.t 30), none⟩,
  ⟨some 2, .mv (.t 34), none⟩,
  ⟨some 3, .mv (.t 35), none⟩])
 (.seq (.reg [⟨some 37, .mv (.t 1), none⟩,
  ⟨some 38, .calld (.t 37) [(.c (.int .i64 13))], none⟩,
  ⟨some 39, .call 19 [(.t 38)], none⟩,
  ⟨some 36, .mv (.t 39), none⟩,
  ⟨some 40, .ex 0 (.t 36), none⟩,
  ⟨some 41, .ex 1 (.t 36), none⟩,
  ⟨some 4, .mv (.t 40), none⟩,
  ⟨some 5, .mv (.t 41), none⟩])
 (.seq (.reg [⟨some 43, .mv (.t 1), none⟩,
  ⟨some 44, .calld (.t 43) [(.c (.int .i64 464))], none⟩,
  ⟨some 45, .call 19 [(.t 44)], none⟩,
  ⟨some 42, .mv (.t 45), none⟩,
  ⟨some 46, .ex 0 (.t 42), none⟩,
  ⟨some 47, .ex 1 (.t 42), none⟩,
  ⟨some 6, .mv (.t 46), none⟩,
  ⟨some 7, .mv (.t 47), none⟩])
 (.seq (.reg [⟨some 49, .mv (.t 1), none⟩,
  ⟨some 50, .calld (.t 49) [(.c (.int .i64 468))], none⟩,
  ⟨some 51, .call 19 [(.t 50)], none⟩,
  ⟨some 48, .mv (.t 51), none⟩,
  ⟨some 52, .ex 0 (.t 48), none⟩,
  ⟨some 53, .ex 1 (.t 48), none⟩,
  ⟨some 8, .mv (.t 52), none⟩,
  ⟨some 9, .mv (.t 53), none⟩])
 (.seq (.reg [⟨some 10, .mv (.c .nils), none⟩])
 (.seq (.seq (.reg [⟨some 54, .mv (.c (.int .i64 0)), none⟩])
 (.block 0 [3, 5, 7, 9, 10]
 (.loop [1, 3, 5, 7, 9, 10, 54]
 (.seq (.reg [⟨some 55, .bin .lss [] (.t 54) (.c (.int .i64 9)), none⟩])
 (.seq (.cond (.t 55)
 (.skip)
 (.exit 0))
 (.seq (.block 1 [1, 3, 5, 7, 9, 10, 54]
 (.reg [⟨some 56, .mv (.t 10), none⟩,
  ⟨some 57, .mv (.t 1), none⟩,
  ⟨some 58, .calld (.t 57) [(.c (.int .i64 12))], none⟩,
  ⟨some 59, .app (.vals [(.int .u16 0), .nils]) 32 (.t 56) (.t 58), none⟩,
  ⟨some 10, .mv (.t 59), none⟩]))
 (.reg [⟨some 60, .bin .add [] (.t 54) (.c (.int .i64 1)), none⟩,
  ⟨some 54, .mv (.t 60), none⟩])))))))
 (.seq (.reg [⟨some 62, .mv (.t 10), none⟩,
  ⟨some 63, .call 19 [(.t 62)], none⟩,
  ⟨some 61, .mv (.t 63), none⟩,
  ⟨some 64, .ex 0 (.t 61), none⟩,
  ⟨some 65, .ex 1 (.t 61), none⟩,
  ⟨some 11, .mv (.t 64), none⟩,
  ⟨some 12, .mv (.t 65), none⟩])
 (.seq (.reg [⟨some 67, .mv (.t 10), none⟩,
  ⟨some 68, .slc none 2 (.t 67) none (some (.c (.int .i64 8))) none, none⟩,
  ⟨some 69, .call 19 [(.t 68)], none⟩,
  ⟨some 66, .mv (.t 69), none⟩,
  ⟨some 70, .ex 0 (.t 66), none⟩,
  ⟨some 71, .ex 1 (.t 66), none⟩,
  ⟨some 13, .mv (.t 70), none⟩,
  ⟨some 14, .mv (.t 71), none⟩])
 (.seq (.reg [⟨some 73, .mv (.t 13), none⟩,
  ⟨some 74, .bsl (.ints .u8 [0]) 16 1 [(0, 1, (.c (.int .u8 0))), (1, 1, (.c (.int .u8 1))), (2, 1, (.c (.int .u8 0))), (3, 1, (.c (.int .u8 16))), (4, 1, (.c (.int .u8 1))), (5, 1, (.c (.int .u8 2))), (6, 1, (.c (.int .u8 3))), (7, 1, (.c (.int .u8 4))), (8, 1, (.c (.int .u8 5))), (9, 1, (.c (.int .u8 6))), (10, 1, (.c (.int .u8 7))), (11, 1, (.c (.int .u8 8))), (12, 1, (.c (.int .u8 9))), (13, 1, (.c (.int .u8 0))), (14, 1, (.c (.int .u8 1))), (15, 1, (.c (.int .u8 2)))], none⟩,
  ⟨some 75, .app (.ints .u8 [0]) 1 (.t 73) (.t 74), none⟩,
  ⟨some 76, .call 14 [(.t 75)], none⟩,
  ⟨some 72, .mv (.t 76), none⟩,
  ⟨some 77, .ex 0 (.t 72), none⟩,
  ⟨some 78, .ex 1 (.t 72), none⟩,
  ⟨some 79, .ex 2 (.t 72), none⟩,
  ⟨some 15, .mv (.t 77), none⟩,
  ⟨some 16, .mv (.t 78), none⟩,
  ⟨some 17, .mv (.t 79), none⟩])
 (.seq (.reg [⟨some 81, .mks (.ints .u8 [0]) 1 (.c (.int .i64 13)) (.c (.int .i64 13)), none⟩,
  ⟨some 82, .call 14 [(.t 81)], none⟩,
  ⟨some 80, .mv (.t 82), none⟩,
  ⟨some 83, .ex 0 (.t 80), none⟩,
  ⟨some 84, .ex 1 (.t 80), none⟩,
  ⟨some 85, .ex 2 (.t 80), none⟩,
  ⟨some 18, .mv (.t 83), none⟩,
  ⟨some 19, .mv (.t 84), none⟩,
  ⟨some 20, .mv (.t 85), none⟩])
 (.seq (.reg [⟨some 87, .bsl (.ints .u8 [0]) 4 1 [(0, 1, (.c (.int .u8 0))), (1, 1, (.c (.int .u8 1))), (2, 1, (.c (.int .u8 0))), (3, 1, (.c (.int .u8 18)))], none⟩,
  ⟨some 88, .call 20 [(.c (.int .i64 14)), (.t 87)], none⟩,
  ⟨some 89, .call 14 [(.t 88)], none⟩,
  ⟨some 86, .mv (.t 89), none⟩,
  ⟨some 90, .ex 0 (.t 86), none⟩,
  ⟨some 91, .ex 1 (.t 86), none⟩,
  ⟨some 92, .ex 2 (.t 86), none⟩,
  ⟨some 21, .mv (.t 90), none⟩,
  ⟨some 22, .mv (.t 91), none⟩,
  ⟨some 23, .mv (.t 92), none⟩])
 (.seq (.reg [⟨some 94, .bsl (.ints .u8 [0]) 4 1 [(0, 1, (.c (.int .u8 0))), (1, 1, (.c (.int .u8 1))), (2, 1, (.c (.int .u8 1))), (3, 1, (.c (.int .u8 216)))], none⟩,
  ⟨some 95, .call 20 [(.c (.int .i64 468)), (.t 94)], none⟩,
  ⟨some 96, .call 14 [(.t 95)], none⟩,
  ⟨some 93, .mv (.t 96), none⟩,
  ⟨some 97, .ex 0 (.t 93), none⟩,
  ⟨some 98, .ex 1 (.t 93), none⟩,
  ⟨some 99, .ex 2 (.t 93), none⟩,
  ⟨some 24, .mv (.t 97), none⟩,
  ⟨some 25, .mv (.t 98), none⟩,
  ⟨some 26, .mv (.t 99), none⟩])
 (.seq (.reg [⟨some 101, .call 14 [(.c .nils)], none⟩,
  ⟨some 100, .mv (.t 101), none⟩,
  ⟨some 102, .ex 0 (.t 100), none⟩,
  ⟨some 103, .ex 1 (.t 100), none⟩,
  ⟨some 104, .ex 2 (.t 100), none⟩,
  ⟨some 27, .mv (.t 102), none⟩,
  ⟨some 28, .mv (.t 103), none⟩,
  ⟨some 29, .mv (.t 104), none⟩])
 (.seq (.reg [⟨some 105, .mv (.c (.bool true)), none⟩,
  ⟨some 106, .call 11 [], some (105, true)⟩,
  ⟨some 107, .pick (.t 105) (.t 106) (.c (.bool false)), none⟩,
  ⟨some 108, .mv (.t 107), none⟩,
  ⟨some 109, .mv (.t 3), some (108, true)⟩,
  ⟨some 110, .bin .eql [] (.t 109) (.c (.int .i64 1)), some (108, true)⟩,
  ⟨some 111, .pick (.t 108) (.t 110) (.c (.bool false)), none⟩,
  ⟨some 112, .mv (.t 111), none⟩,
  ⟨some 113, .mv (.t 5), some (112, true)⟩,
  ⟨some 114, .bin .eql [] (.t 113) (.c (.int .i64 1)), some (112, true)⟩,
  ⟨some 115, .pick (.t 112) (.t 114) (.c (.bool false)), none⟩,
  ⟨some 116, .mv (.t 115), none⟩,
  ⟨some 117, .mv (.t 7), some (116, true)⟩,
  ⟨some 118, .bin .eql [] (.t 117) (.c (.int .i64 0)), some (116, true)⟩,
  ⟨some 119, .pick (.t 116) (.t 118) (.c (.bool false)), none⟩,
  ⟨some 120, .mv (.t 119), none⟩,
  ⟨some 121, .mv (.t 9), some (120, true)⟩,
  ⟨some 122, .bin .eql [] (.t 121) (.c (.int .i64 1)), some (120, true)⟩,
  ⟨some 123, .pick (.t 120) (.t 122) (.c (.bool false)), none⟩,
  ⟨some 124, .mv (.t 123), none⟩,
  ⟨some 125, .mv (.t 12), some (124, true)⟩,
  ⟨some 126, .bin .eql [] (.t 125) (.c (.int .i64 1)), some (124, true)⟩,
  ⟨some 127, .pick (.t 124) (.t 126) (.c (.bool false)), none⟩,
  ⟨some 128, .mv (.t 127), none⟩,
  ⟨some 129, .mv (.t 14), some (128, true)⟩,
  ⟨some 130, .bin .eql [] (.t 129) (.c (.int .i64 0)), some (128, true)⟩,
  ⟨some 131, .pick (.t 128) (.t 130) (.c (.bool false)), none⟩,
  ⟨some 132, .mv (.t 131), none⟩,
  ⟨some 133, .mv (.t 17), some (132, true)⟩,
  ⟨some 134, .bin .eql [] (.t 133) (.c (.int .i64 7)), some (132, true)⟩,
  ⟨some 135, .pick (.t 132) (.t 134) (.c (.bool false)), none⟩,
  ⟨some 136, .mv (.t 135), none⟩,
  ⟨some 137, .mv (.t 20), some (136, true)⟩,
  ⟨some 138, .bin .eql [] (.t 137) (.c (.int .i64 4)), some (136, true)⟩,
  ⟨some 139, .pick (.t 136) (.t 138) (.c (.bool false)), none⟩,
  ⟨some 140, .mv (.t 139), none⟩,
  ⟨some 141, .mv (.t 23), some (140, true)⟩,
  ⟨some 142, .bin .eql [] (.t 141) (.c (.int .i64 5)), some (140, true)⟩,
  ⟨some 143, .pick (.t 140) (.t 142) (.c (.bool false)), none⟩,
  ⟨some 144, .mv (.t 143), none⟩,
  ⟨some 145, .mv (.t 26), some (144, true)⟩,
  ⟨some 146, .bin .eql [] (.t 145) (.c (.int .i64 5)), some (144, true)⟩,
  ⟨some 147, .pick (.t 144) (.t 146) (.c (.bool false)), none⟩,
  ⟨some 148, .mv (.t 147), none⟩,
  ⟨some 149, .mv (.t 29), some (148, true)⟩,
  ⟨some 150, .bin .eql [] (.t 149) (.c (.int .i64 0)), some (148, true)⟩,
  ⟨some 151, .pick (.t 148) (.t 150) (.c (.bool false)), none⟩,
  ⟨some 152, .mv (.t 151), none⟩,
  ⟨some 153, .mv (.t 27), some (152, true)⟩,
  ⟨some 154, .len none (.t 153), some (152, true)⟩,
  ⟨some 155, .bin .eql [] (.t 154) (.c (.int .i64 0)), some (152, true)⟩,
  ⟨some 156, .pick (.t 152) (.t 155) (.c (.bool false)), none⟩,
  ⟨some 157, .mv (.t 156), none⟩,
  ⟨some 158, .mv (.t 28), some (157, true)⟩,
  ⟨some 159, .len none (.t 158), some (157, true)⟩,
  ⟨some 160, .bin .eql [] (.t 159) (.c (.int .i64 0)), some (157, true)⟩,
  ⟨some 161, .pick (.t 157) (.t 160) (.c (.bool false)), none⟩,
  ⟨some 162, .mv (.t 161), none⟩,
  ⟨some 163, .call 21 [(.c .nils)], some (162, true)⟩,
  ⟨some 164, .pick (.t 162) (.t 163) (.c (.bool false)), none⟩,
  ⟨some 0, .mv (.t 164), none⟩])
 (.ret)))))))))))))))),
 [.tmp 0], true⟩
/-- ephemeris/ephemerislaw05.ExtBack -/
def M6 : MFunc := ⟨.seq (.reg [⟨some 4, .bx (some .u8) 12 (.t 1), none⟩,
  ⟨some 6, .mv (.c (.bool false)), none⟩])
 (.seq (.reg [⟨some 20, .mv (.t 0), none⟩,
  ⟨some 21, .call 9 [(.t 20)], none⟩,
  ⟨some 0, .mv (.t 21), none⟩])
 (.seq (.reg [⟨some 23, .mv (.t 0), none⟩,
  ⟨some 24, .call 19 [(.t 23)], none⟩,
  ⟨some 22, .mv (.t 24), none⟩,
  ⟨some 25, .ex 0 (.t 22), none⟩,
  ⟨some 26, .ex 1 (.t 22), none⟩,
  ⟨some 7, .mv (.t 25), none⟩,
  ⟨some 8, .mv (.t 26), none⟩])
 (.seq (.reg [⟨some 28, .mv (.t 7), none⟩,
  ⟨some 29, .call 14 [(.t 28)], none⟩,
  ⟨some 27, .mv (.t 29), none⟩,
  ⟨some 30, .ex 0 (.t 27), none⟩,
  ⟨some 31, .ex 1 (.t 27), none⟩,
  ⟨some 32, .ex 2 (.t 27), none⟩,
  ⟨some 9, .mv (.t 30), none⟩,
  ⟨some 10, .mv (.t 31), none⟩,
  ⟨some 11, .mv (.t 32), none⟩])
 (.seq (.regd [(1, ⟨some 35, .mv (.t 7), none⟩),
  (3, ⟨some 37, .slc (some 12) 1 (.t 4) none none none, none⟩),
  (0, ⟨some 34, .bsl (.ints .u8 [0]) 0 1 [], none⟩),
  (2, ⟨some 36, .app (.ints .u8 [0]) 1 (.t 34) (.t 35), none⟩),
  (4, ⟨some 38, .app (.ints .u8 [0]) 1 (.t 36) (.t 37), none⟩),
  (5, ⟨some 39, .call 14 [(.t 38)], none⟩),
  (6, ⟨some 33, .mv (.t 39), none⟩),
  (7, ⟨some 40, .ex 0 (.t 33), none⟩),
  (8, ⟨some 41, .ex 1 (.t 33), none⟩),
  (9, ⟨some 42, .ex 2 (.t 33), none⟩),
  (10, ⟨some 12, .mv (.t 40), none⟩),
  (11, ⟨some 13, .mv (.t 41), none⟩),
  (12, ⟨some 14, .mv (.t 42), none⟩)] [])
 (.seq (.seq (.reg [⟨some 43, .mv (.t 0), none⟩,
  ⟨some 44, .call 21 [(.t 43)], none⟩,
  ⟨some 45, .un .not (.t 44), none⟩,
  ⟨some 46, .mv (.t 45), none⟩,
  ⟨some 47, .mv (.t 8), some (46, false)⟩,
  ⟨some 48, .bin .neq [] (.t 47) (.c (.int .i64 0)), some (46, false)⟩,
  ⟨some 49, .pick (.t 46) (.c (.bool true)) (.t 48), none⟩,
  ⟨some 50, .mv (.t 49), none⟩,
  ⟨some 51, .mv (.t 11), some (50, false)⟩,
  ⟨some 52, .bin .neq [] (.t 51) (.c (.int .i64 0)), some (50, false)⟩,
  ⟨some 53, .pick (.t 50) (.c (.bool true)) (.t 52), none⟩,
  ⟨some 54, .mv (.t 53), none⟩,
  ⟨some 55, .mv (.t 0), some (54, false)⟩,
  ⟨some 56, .mv (.t 9), some (54, false)⟩,
  ⟨some 57, .call 16 [(.t 55), (.t 56)], some (54, false)⟩,
  ⟨some 58, .un .not (.t 57), some (54, false)⟩,
  ⟨some 59, .pick (.t 54) (.c (.bool true)) (.t 58), none⟩,
  ⟨some 60, .mv (.t 59), none⟩,
  ⟨some 61, .mv (.t 10), some (60, false)⟩,
  ⟨some 62, .len none (.t 61), some (60, false)⟩,
  ⟨some 63, .bin .neq [] (.t 62) (.c (.int .i64 0)), some (60, false)⟩,
  ⟨some 64, .pick (.t 60) (.c (.bool true)) (.t 63), none⟩,
  ⟨some 65, .mv (.t 64), none⟩,
  ⟨some 66, .mv (.t 14), some (65, false)⟩,
  ⟨some 67, .bin .neq [] (.t 66) (.c (.int .i64 0)), some (65, false)⟩,
  ⟨some 68, .pick (.t 65) (.c (.bool true)) (.t 67), none⟩,
  ⟨some 69, .mv (.t 68), none⟩,
  ⟨some 70, .mv (.t 0), some (69, false)⟩,
  ⟨some 71, .mv (.t 12), some (69, false)⟩,
  ⟨some 72, .call 16 [(.t 70), (.t 71)], some (69, false)⟩,
  ⟨some 73, .un .not (.t 72), some (69, false)⟩,
  ⟨some 74, .pick (.t 69) (.c (.bool true)) (.t 73), none⟩,
  ⟨some 75, .mv (.t 74), none⟩,
  ⟨some 76, .mv (.t 13), some (75, false)⟩,
  ⟨some 77, .slc (some 12) 1 (.t 4) none none none, some (75, false)⟩,
  ⟨some 78, .call 12 [(.t 76), (.t 77)], some (75, false)⟩,
  ⟨some 79, .un .not (.t 78), some (75, false)⟩,
  ⟨some 80, .pick (.t 75) (.c (.bool true)) (.t 79), none⟩])
 (.cond (.t 80)
 (.seq (.reg [⟨some 6, .mv (.c (.bool false)), none⟩])
 (.ret))
 (.skip)))
 (.seq (.reg [⟨some 81, .mv (.t 2), none⟩,
  ⟨some 82, .mv (.t 2), none⟩,
  ⟨some 83, .len none (.t 82), none⟩,
  ⟨some 84, .mnx false [(.t 83), (.c (.int .i64 2000))], none⟩,
  ⟨some 85, .slc none 1 (.t 81) none (some (.t 84)) none, none⟩,
  ⟨some 2, .mv (.t 85), none⟩])
 (.seq (.reg [⟨some 87, .mv (.t 2), none⟩,
  ⟨some 88, .call 14 [(.t 87)], none⟩,
  ⟨some 86, .mv (.t 88), none⟩,
  ⟨some 89, .ex 0 (.t 86), none⟩,
  ⟨some 90, .ex 1 (.t 86), none⟩,
  ⟨some 91, .ex 2 (.t 86), none⟩,
  ⟨some 15, .mv (.t 89), none⟩,
  ⟨some 16, .mv (.t 90), none⟩,
  ⟨some 17, .mv (.t 91), none⟩])
 (.seq (.seq (.reg [⟨some 92, .mv (.t 17), none⟩,
  ⟨some 93, .bin .neq [] (.t 92) (.c (.int .i64 0)), none⟩])
 (.cond (.t 93)
 (.seq (.reg [⟨some 94, .call 11 [], none⟩,
  ⟨some 95, .mv (.t 94), none⟩,
  ⟨some 96, .mv (.t 15), some (95, true)⟩,
  ⟨some 97, .len none (.t 96), some (95, true)⟩,
  ⟨some 98, .bin .eql [] (.t 97) (.c (.int .i64 0)), some (95, true)⟩,
  ⟨some 99, .pick (.t 95) (.t 98) (.c (.bool false)), none⟩,
  ⟨some 100, .mv (.t 99), none⟩,
  ⟨some 101, .mv (.t 16), some (100, true)⟩,
  ⟨some 102, .len none (.t 101), some (100, true)⟩,
  ⟨some 103, .bin .eql [] (.t 102) (.c (.int .i64 0)), some (100, true)⟩,
  ⟨some 104, .pick (.t 100) (.t 103) (.c (.bool false)), none⟩,
  ⟨some 6, .mv (.t 104), none⟩])
 (.ret))
 (.skip)))
 (.seq (.reg [⟨some 106, .mv (.t 15), none⟩,
  ⟨some 107, .call 19 [(.t 106)], none⟩,
  ⟨some 105, .mv (.t 107), none⟩,
  ⟨some 108, .ex 0 (.t 105), none⟩,
  ⟨some 109, .ex 1 (.t 105), none⟩,
  ⟨some 18, .mv (.t 108), none⟩,
  ⟨some 19, .mv (.t 109), none⟩])
 (.seq (.reg [⟨some 110, .call 11 [], none⟩,
  ⟨some 111, .mv (.t 110), none⟩,
  ⟨some 112, .mv (.t 19), some (111, true)⟩,
  ⟨some 113, .bin .eql [] (.t 112) (.c (.int .i64 0)), some (111, true)⟩,
  ⟨some 114, .pick (.t 111) (.t 113) (.c (.bool false)), none⟩,
  ⟨some 115, .mv (.t 114), none⟩,
  ⟨some 116, .mv (.t 16), some (115, true)⟩,
  ⟨some 117, .len none (.t 116), some (115, true)⟩,
  ⟨some 118, .bin .eql [] (.t 117) (.c (.int .i64 0)), some (115, true)⟩,
  ⟨some 119, .mv (.t 118), some (115, true)⟩,
  ⟨some 120, .mv (.t 16), some (119, false)⟩,
  ⟨some 121, .len none (.t 120), some (119, false)⟩,
  ⟨some 122, .bin .eql [] (.t 121) (.c (.int .i64 12)), some (119, false)⟩,
  ⟨some 123, .pick (.t 119) (.c (.bool true)) (.t 122), some (115, true)⟩,
  ⟨some 124, .pick (.t 115) (.t 123) (.c (.bool false)), none⟩,
  ⟨some 125, .mv (.t 124), none⟩,
  ⟨some 126, .mv (.t 18), some (125, true)⟩,
  ⟨some 127, .mv (.t 16), some (125, true)⟩,
  ⟨some 128, .app (.ints .u8 [0]) 1 (.t 126) (.t 127), some (125, true)⟩,
  ⟨some 129, .mv (.t 2), some (125, true)⟩,
  ⟨some 130, .call 12 [(.t 128), (.t 129)], some (125, true)⟩,
  ⟨some 131, .pick (.t 125) (.t 130) (.c (.bool false)), none⟩,
  ⟨some 6, .mv (.t 131), none⟩])
 (.ret))))))))))),
 [.tmp 6], true⟩
/-- ephemeris/ephemerislaw05.ExtCuts -/
def M7 : MFunc := ⟨.seq (.reg [⟨some 4, .mv (.c (.bool false)), none⟩])
 (.seq (.reg [⟨some 13, .mv (.t 0), none⟩,
  ⟨some 14, .call 9 [(.t 13)], none⟩,
  ⟨some 0, .mv (.t 14), none⟩])
 (.seq (.reg [⟨some 16, .mv (.t 0), none⟩,
  ⟨some 17, .call 19 [(.t 16)], none⟩,
  ⟨some 15, .mv (.t 17), none⟩,
  ⟨some 18, .ex 0 (.t 15), none⟩,
  ⟨some 19, .ex 1 (.t 15), none⟩,
  ⟨some 5, .mv (.t 18), none⟩,
  ⟨some 6, .mv (.t 19), none⟩])
 (.seq (.seq (.reg [⟨some 20, .mv (.t 6), none⟩,
  ⟨some 21, .bin .neq [] (.t 20) (.c (.int .i64 0)), none⟩,
  ⟨some 22, .mv (.t 21), none⟩,
  ⟨some 23, .mv (.t 5), some (22, false)⟩,
  ⟨some 24, .len none (.t 23), some (22, false)⟩,
  ⟨some 25, .bin .eql [] (.t 24) (.c (.int .i64 0)), some (22, false)⟩,
  ⟨some 26, .mv (.t 25), some (22, false)⟩,
  ⟨some 27, .mv (.t 0), some (26, true)⟩,
  ⟨some 28, .len none (.t 27), some (26, true)⟩,
  ⟨some 29, .bin .gtr [] (.t 28) (.c (.int .i64 0)), some (26, true)⟩,
  ⟨some 30, .pick (.t 26) (.t 29) (.c (.bool false)), some (22, false)⟩,
  ⟨some 31, .pick (.t 22) (.c (.bool true)) (.t 30), none⟩])
 (.cond (.t 31)
 (.seq (.reg [⟨some 4, .mv (.c (.bool false)), none⟩])
 (.ret))
 (.skip)))
 (.seq (.reg [⟨some 32, .mv (.t 1), none⟩,
  ⟨some 33, .ci .i64 (.t 32), none⟩,
  ⟨some 34, .mv (.t 5), none⟩,
  ⟨some 35, .len none (.t 34), none⟩,
  ⟨some 36, .bin .add [] (.t 35) (.c (.int .i64 1)), none⟩,
  ⟨some 37, .bin .rem [] (.t 33) (.t 36), none⟩,
  ⟨some 7, .mv (.t 37), none⟩])
 (.seq (.reg [⟨some 39, .mv (.t 5), none⟩,
  ⟨some 40, .mv (.t 7), none⟩,
  ⟨some 41, .slc none 1 (.t 39) none (some (.t 40)) none, none⟩,
  ⟨some 42, .call 14 [(.t 41)], none⟩,
  ⟨some 38, .mv (.t 42), none⟩,
  ⟨some 43, .ex 0 (.t 38), none⟩,
  ⟨some 44, .ex 1 (.t 38), none⟩,
  ⟨some 45, .ex 2 (.t 38), none⟩,
  ⟨some 8, .mv (.t 43), none⟩,
  ⟨some 9, .mv (.t 44), none⟩,
  ⟨some 10, .mv (.t 45), none⟩])
 (.seq (.seq (.reg [⟨some 46, .mv (.t 10), none⟩,
  ⟨some 47, .bin .neq [] (.t 46) (.c (.int .i64 0)), none⟩])
 (.cond (.t 47)
 (.seq (.reg [⟨some 48, .call 11 [], none⟩,
  ⟨some 49, .mv (.t 48), none⟩,
  ⟨some 50, .mv (.t 10), some (49, true)⟩,
  ⟨some 51, .bin .eql [] (.t 50) (.c (.int .i64 4)), some (49, true)⟩,
  ⟨some 52, .pick (.t 49) (.t 51) (.c (.bool false)), none⟩,
  ⟨some 4, .mv (.t 52), none⟩])
 (.ret))
 (.skip)))
 (.seq (.reg [⟨some 54, .mv (.t 8), none⟩,
  ⟨some 55, .call 19 [(.t 54)], none⟩,
  ⟨some 53, .mv (.t 55), none⟩,
  ⟨some 56, .ex 0 (.t 53), none⟩,
  ⟨some 57, .ex 1 (.t 53), none⟩,
  ⟨some 11, .mv (.t 56), none⟩,
  ⟨some 12, .mv (.t 57), none⟩])
 (.seq (.regd [(0, ⟨some 58, .call 11 [], none⟩),
  (1, ⟨some 59, .mv (.t 58), none⟩),
  (2, ⟨some 60, .mv (.t 8), some (59, true)⟩),
  (3, ⟨some 61, .len none (.t 60), some (59, true)⟩),
  (4, ⟨some 62, .mv (.t 0), some (59, true)⟩),
  (5, ⟨some 63, .len none (.t 62), some (59, true)⟩),
  (6, ⟨some 64, .bin .leq [] (.t 61) (.t 63), some (59, true)⟩),
  (7, ⟨some 65, .pick (.t 59) (.t 64) (.c (.bool false)), none⟩),
  (8, ⟨some 66, .mv (.t 65), none⟩),
  (9, ⟨some 67, .mv (.t 8), some (66, true)⟩),
  (10, ⟨some 68, .mv (.t 0), some (66, true)⟩),
  (11, ⟨some 69, .mv (.t 8), some (66, true)⟩),
  (12, ⟨some 70, .len none (.t 69), some (66, true)⟩),
  (13, ⟨some 71, .slc none 2 (.t 68) none (some (.t 70)) none, some (66, true)⟩),
  (14, ⟨some 72, .call 16 [(.t 67), (.t 71)], some (66, true)⟩),
  (15, ⟨some 73, .pick (.t 66) (.t 72) (.c (.bool false)), none⟩),
  (16, ⟨some 74, .mv (.t 73), none⟩),
  (17, ⟨some 75, .mv (.t 11), some (74, true)⟩),
  (18, ⟨some 76, .len none (.t 75), some (74, true)⟩),
  (19, ⟨some 77, .mv (.t 9), some (74, true)⟩),
  (20, ⟨some 78, .len none (.t 77), some (74, true)⟩),
  (21, ⟨some 79, .bin .add [] (.t 76) (.t 78), some (74, true)⟩),
  (22, ⟨some 80, .mv (.t 7), some (74, true)⟩),
  (23, ⟨some 81, .bin .eql [] (.t 79) (.t 80), some (74, true)⟩),
  (24, ⟨some 82, .pick (.t 74) (.t 81) (.c (.bool false)), none⟩),
  (25, ⟨some 83, .mv (.t 82), none⟩),
  (26, ⟨some 84, .mv (.t 11), some (83, true)⟩),
  (27, ⟨some 85, .mv (.t 9), some (83, true)⟩),
  (28, ⟨some 86, .app (.ints .u8 [0]) 1 (.t 84) (.t 85), some (83, true)⟩),
  (29, ⟨some 87, .mv (.t 5), some (83, true)⟩),
  (30, ⟨some 88, .mv (.t 7), some (83, true)⟩),
  (31, ⟨some 89, .slc none 1 (.t 87) none (some (.t 88)) none, some (83, true)⟩),
  (32, ⟨some 90, .call 12 [(.t 86), (.t 89)], some (83, true)⟩),
  (33, ⟨some 91, .pick (.t 83) (.t 90) (.c (.bool false)), none⟩),
  (34, ⟨some 4, .mv (.t 91), none⟩)] [])
 (.ret))))))))),
 [.tmp 4], true⟩
/-- ephemeris/ephemerislaw05.ExtPuts -/
def M8 : MFunc := ⟨.seq (.reg [⟨some 6, .mv (.c (.bool false)), none⟩])
 (.seq (.reg [⟨some 18, .mv (.t 0), none⟩,
  ⟨some 19, .call 22 [(.t 18)], none⟩,
  ⟨some 20, .mv (.t 1), none⟩,
  ⟨some 21, .call 22 [(.t 20)], none⟩,
  ⟨some 0, .mv (.t 19), none⟩,
  ⟨some 1, .mv (.t 21), none⟩])
 (.seq (.reg [⟨some 23, .mv (.t 0), none⟩,
  ⟨some 24, .call 19 [(.t 23)], none⟩,
  ⟨some 22, .mv (.t 24), none⟩,
  ⟨some 25, .ex 0 (.t 22), none⟩,
  ⟨some 26, .ex 1 (.t 22), none⟩,
  ⟨some 7, .mv (.t 25), none⟩,
  ⟨some 8, .mv (.t 26), none⟩])
 (.seq (.reg [⟨some 28, .mv (.t 0), none⟩,
  ⟨some 29, .call 23 [(.t 28)], none⟩,
  ⟨some 27, .mv (.t 29), none⟩,
  ⟨some 30, .ex 0 (.t 27), none⟩,
  ⟨some 31, .ex 1 (.t 27), none⟩,
  ⟨some 9, .mv (.t 30), none⟩,
  ⟨some 10, .mv (.t 31), none⟩])
 (.seq (.reg [⟨some 33, .mv (.t 0), none⟩,
  ⟨some 34, .mv (.t 2), none⟩,
  ⟨some 35, .call 10 [(.t 33), (.t 34)], none⟩,
  ⟨some 32, .mv (.t 35), none⟩,
  ⟨some 36, .ex 0 (.t 32), none⟩,
  ⟨some 37, .ex 1 (.t 32), none⟩,
  ⟨some 11, .mv (.t 36), none⟩,
  ⟨some 12, .mv (.t 37), none⟩])
 (.seq (.reg [⟨some 39, .mv (.t 0), none⟩,
  ⟨some 40, .mv (.t 2), none⟩,
  ⟨some 41, .call 24 [(.t 39), (.t 40)], none⟩,
  ⟨some 38, .mv (.t 41), none⟩,
  ⟨some 42, .ex 0 (.t 38), none⟩,
  ⟨some 43, .ex 1 (.t 38), none⟩,
  ⟨some 13, .mv (.t 42), none⟩,
  ⟨some 14, .mv (.t 43), none⟩])
 (.seq (.reg [⟨some 44, .mv (.t 11), none⟩,
  ⟨some 45, .mv (.t 13), none⟩,
  ⟨some 46, .call 12 [(.t 44), (.t 45)], none⟩,
  ⟨some 47, .mv (.t 46), none⟩,
  ⟨some 48, .mv (.t 12), some (47, true)⟩,
  ⟨some 49, .mv (.t 14), some (47, true)⟩,
  ⟨some 50, .bin .eql [1] (.t 48) (.t 49), some (47, true)⟩,
  ⟨some 51, .pick (.t 47) (.t 50) (.c (.bool false)), none⟩,
  ⟨some 15, .mv (.t 51), none⟩])
 (.seq (.reg [⟨some 52, .mv (.t 13), none⟩,
  ⟨some 53, .call 13 [(.t 52)], none⟩,
  ⟨some 16, .mv (.t 53), none⟩])
 (.seq (.seq (.reg [⟨some 54, .mv (.t 11), none⟩,
  ⟨some 55, .len none (.t 54), none⟩,
  ⟨some 56, .mv (.c (.int .i64 0)), none⟩])
 (.block 0 [0, 1, 7, 8, 9, 10, 13, 15, 16]
 (.loop [0, 1, 7, 8, 9, 10, 11, 13, 15, 16, 55, 56]
 (.seq (.reg [⟨some 57, .bin .lss [] (.t 56) (.t 55), none⟩])
 (.seq (.cond (.t 57)
 (.skip)
 (.exit 0))
 (.seq (.block 1 [0, 1, 7, 8, 9, 10, 11, 13, 15, 16, 55, 56]
 (.seq (.reg [⟨some 58, .mv (.t 56), none⟩,
  ⟨some 17, .mv (.t 58), none⟩])
 (.reg [⟨some 59, .mv (.t 11), none⟩,
  ⟨some 60, .mv (.t 17), none⟩,
  ⟨some 61, .ia none 1 (.t 59) (.t 60), none⟩,
  ⟨some 62, .ld none (.t 61), none⟩,
  ⟨some 63, .bin .xor [] (.t 62) (.c (.int .u8 255)), none⟩,
  ⟨some 64, .ia none 1 (.t 59) (.t 60), none⟩,
  ⟨none, .st 1 (.t 64) (.t 63), none⟩])))
 (.reg [⟨some 65, .bin .add [] (.t 56) (.c (.int .i64 1)), none⟩,
  ⟨some 56, .mv (.t 65), none⟩])))))))
 (.seq (.reg [⟨some 66, .call 11 [], none⟩,
  ⟨some 67, .mv (.t 66), none⟩,
  ⟨some 68, .mv (.t 7), some (67, true)⟩,
  ⟨some 69, .mv (.t 9), some (67, true)⟩,
  ⟨some 70, .call 12 [(.t 68), (.t 69)], some (67, true)⟩,
  ⟨some 71, .pick (.t 67) (.t 70) (.c (.bool false)), none⟩,
  ⟨some 72, .mv (.t 71), none⟩,
  ⟨some 73, .mv (.t 8), some (72, true)⟩,
  ⟨some 74, .mv (.t 10), some (72, true)⟩,
  ⟨some 75, .bin .eql [] (.t 73) (.t 74), some (72, true)⟩,
  ⟨some 76, .pick (.t 72) (.t 75) (.c (.bool false)), none⟩,
  ⟨some 77, .mv (.t 76), none⟩,
  ⟨some 78, .mv (.t 0), some (77, true)⟩,
  ⟨some 79, .call 21 [(.t 78)], some (77, true)⟩,
  ⟨some 80, .mv (.t 0), some (77, true)⟩,
  ⟨some 81, .call 25 [(.t 80)], some (77, true)⟩,
  ⟨some 82, .bin .eql [1] (.t 79) (.t 81), some (77, true)⟩,
  ⟨some 83, .pick (.t 77) (.t 82) (.c (.bool false)), none⟩,
  ⟨some 84, .mv (.t 83), none⟩,
  ⟨some 85, .mv (.t 15), some (84, true)⟩,
  ⟨some 86, .pick (.t 84) (.t 85) (.c (.bool false)), none⟩,
  ⟨some 87, .mv (.t 86), none⟩,
  ⟨some 88, .mv (.t 16), some (87, true)⟩,
  ⟨some 89, .mv (.t 13), some (87, true)⟩,
  ⟨some 90, .call 12 [(.t 88), (.t 89)], some (87, true)⟩,
  ⟨some 91, .pick (.t 87) (.t 90) (.c (.bool false)), none⟩,
  ⟨some 92, .mv (.t 91), none⟩,
  ⟨some 93, .mv (.t 0), some (92, true)⟩,
  ⟨some 94, .mv (.t 1), some (92, true)⟩,
  ⟨some 95, .call 16 [(.t 93), (.t 94)], some (92, true)⟩,
  ⟨some 96, .mv (.t 0), some (92, true)⟩,
  ⟨some 97, .mv (.t 1), some (92, true)⟩,
  ⟨some 98, .call 17 [(.t 96), (.t 97)], some (92, true)⟩,
  ⟨some 99, .bin .eql [1] (.t 95) (.t 98), some (92, true)⟩,
  ⟨some 100, .pick (.t 92) (.t 99) (.c (.bool false)), none⟩,
  ⟨some 101, .mv (.t 100), none⟩,
  ⟨some 102, .mv (.t 0), some (101, true)⟩,
  ⟨some 103, .mv (.t 0), some (101, true)⟩,
  ⟨some 104, .call 22 [(.t 103)], some (101, true)⟩,
  ⟨some 105, .call 16 [(.t 102), (.t 104)], some (101, true)⟩,
  ⟨some 106, .pick (.t 101) (.t 105) (.c (.bool false)), none⟩,
  ⟨some 6, .mv (.t 106), none⟩])
 (.ret)))))))))),
 [.tmp 6], true⟩
/-- ephemeris/ephemerislaw05.proper -/
def M9 : MFunc := ⟨.seq (.reg [⟨some 2, .mv (.c .nils), none⟩])
 (.seq (.reg [⟨some 3, .mv (.c .nils), none⟩])
 (.seq (.seq (.reg [⟨some 7, .mv (.t 0), none⟩,
  ⟨some 8, .len none (.t 7), none⟩,
  ⟨some 9, .mv (.c (.int .i64 0)), none⟩])
 (.block 0 [3]
 (.loop [3, 7, 8, 9]
 (.seq (.reg [⟨some 10, .bin .lss [] (.t 9) (.t 8), none⟩])
 (.seq (.cond (.t 10)
 (.skip)
 (.exit 0))
 (.seq (.block 1 [3, 7, 8, 9]
 (.seq (.reg [⟨some 11, .mv (.t 9), none⟩,
  ⟨some 12, .ia none 2 (.t 7) (.t 9), none⟩,
  ⟨some 13, .ld (some 2) (.t 12), none⟩,
  ⟨some 5, .al (.vals [(.int .u16 0), .nils]), none⟩,
  ⟨some 4, .mv (.t 11), none⟩,
  ⟨none, .st 2 (.t 5) (.t 13), none⟩])
 (.seq (.seq (.reg [⟨some 14, .mv (.t 4), none⟩,
  ⟨some 15, .bin .eql [] (.t 14) (.c (.int .i64 8)), none⟩])
 (.cond (.t 15)
 (.exit 0)
 (.skip)))
 (.seq (.reg [⟨some 16, .fa 1 (.t 5), none⟩,
  ⟨some 17, .ld none (.t 16), none⟩,
  ⟨some 18, .len none (.t 17), none⟩,
  ⟨some 19, .mnx true [(.t 18), (.c (.int .i64 12))], none⟩,
  ⟨some 20, .mnx false [(.t 19), (.c (.int .i64 464))], none⟩,
  ⟨some 21, .bin .quo [] (.t 20) (.c (.int .i64 4)), none⟩,
  ⟨some 22, .bin .mul [] (.t 21) (.c (.int .i64 4)), none⟩,
  ⟨some 6, .mv (.t 22), none⟩])
 (.regd [(0, ⟨some 23, .mv (.t 3), none⟩),
  (1, ⟨some 24, .fa 0 (.t 5), none⟩),
  (2, ⟨some 25, .ld none (.t 24), none⟩),
  (4, ⟨some 27, .fa 1 (.t 5), none⟩),
  (5, ⟨some 28, .ld none (.t 27), none⟩),
  (6, ⟨some 29, .fa 1 (.t 5), none⟩),
  (7, ⟨some 30, .ld none (.t 29), none⟩),
  (8, ⟨some 31, .len none (.t 30), none⟩),
  (9, ⟨some 32, .mv (.t 6), none⟩),
  (10, ⟨some 33, .mnx false [(.t 31), (.t 32)], none⟩),
  (11, ⟨some 34, .slc none 1 (.t 28) none (some (.t 33)) none, none⟩),
  (13, ⟨some 36, .mv (.t 6), none⟩),
  (14, ⟨some 37, .fa 1 (.t 5), none⟩),
  (15, ⟨some 38, .ld none (.t 37), none⟩),
  (16, ⟨some 39, .len none (.t 38), none⟩),
  (17, ⟨some 40, .bin .sub [] (.t 36) (.t 39), none⟩),
  (18, ⟨some 41, .mnx true [(.t 40), (.c (.int .i64 0))], none⟩),
  (3, ⟨some 26, .bsl (.ints .u8 [0]) 0 1 [], none⟩),
  (12, ⟨some 35, .app (.ints .u8 [0]) 1 (.t 26) (.t 34), none⟩),
  (19, ⟨some 42, .appz (.ints .u8 [0]) 1 (.t 35) (.t 41), none⟩),
  (20, ⟨some 43, .bld [(.int .u16 0), .nils] [(0, 1, (.t 25)), (1, 1, (.t 42))], none⟩),
  (21, ⟨some 44, .bsl (.vals [(.int .u16 0), .nils]) 1 2 [(0, 2, (.t 43))], none⟩),
  (22, ⟨some 45, .app (.vals [(.int .u16 0), .nils]) 32 (.t 23) (.t 44), none⟩),
  (23, ⟨some 3, .mv (.t 45), none⟩)] [(2, 18), (2, 19), (13, 18)])))))
 (.reg [⟨some 46, .bin .add [] (.t 9) (.c (.int .i64 1)), none⟩,
  ⟨some 9, .mv (.t 46), none⟩])))))))
 (.seq (.reg [⟨some 47, .mv (.t 3), none⟩,
  ⟨some 2, .mv (.t 47), none⟩])
 (.ret)))),
 [.tmp 2], true⟩
/-- ephemeris/ext.Find -/
def M10 : MFunc := ⟨.seq (.reg [⟨some 3, .bx (some .u16) 1 (.t 1), none⟩,
  ⟨some 4, .mv (.c .nils), none⟩,
  ⟨some 5, .mv (.c (.bool false)), none⟩])
 (.seq (.reg [⟨some 7, .mv (.t 0), none⟩,
  ⟨some 8, .mf 27 [(.t 3)], none⟩,
  ⟨some 9, .call 26 [(.t 7), (.t 8)], none⟩,
  ⟨some 6, .mv (.t 9), none⟩])
 (.seq (.seq (.reg [⟨some 10, .mv (.t 6), none⟩,
  ⟨some 11, .bin .lss [] (.t 10) (.c (.int .i64 0)), none⟩])
 (.cond (.t 11)
 (.seq (.reg [⟨some 4, .mv (.c .nils), none⟩,
  ⟨some 5, .mv (.c (.bool false)), none⟩])
 (.ret))
 (.skip)))
 (.seq (.reg [⟨some 12, .mv (.t 0), none⟩,
  ⟨some 13, .mv (.t 6), none⟩,
  ⟨some 14, .ia none 2 (.t 12) (.t 13), none⟩,
  ⟨some 15, .fa 1 (.t 14), none⟩,
  ⟨some 16, .ld none (.t 15), none⟩,
  ⟨some 17, .call 28 [(.t 16)], none⟩,
  ⟨some 4, .mv (.t 17), none⟩,
  ⟨some 5, .mv (.c (.bool true)), none⟩])
 (.ret)))),
 [.tmp 4, .tmp 5], true⟩
/-- ephemeris/ephemerislaw05.awake -/
def M11 : MFunc := ⟨.seq (.reg [⟨some 0, .mv (.c (.bool false)), none⟩])
 (.seq (.reg [⟨some 14, .bsl (.ints .u8 [0]) 4 1 [(0, 1, (.c (.int .u8 1))), (1, 1, (.c (.int .u8 2))), (2, 1, (.c (.int .u8 0))), (3, 1, (.c (.int .u8 16)))], none⟩,
  ⟨some 15, .call 20 [(.c (.int .i64 12)), (.t 14)], none⟩,
  ⟨some 16, .call 14 [(.t 15)], none⟩,
  ⟨some 13, .mv (.t 16), none⟩,
  ⟨some 17, .ex 0 (.t 13), none⟩,
  ⟨some 18, .ex 1 (.t 13), none⟩,
  ⟨some 19, .ex 2 (.t 13), none⟩,
  ⟨some 1, .mv (.t 17), none⟩,
  ⟨some 2, .mv (.t 18), none⟩,
  ⟨some 3, .mv (.t 19), none⟩])
 (.seq (.reg [⟨some 21, .mks (.ints .u8 [0]) 1 (.c (.int .i64 12)) (.c (.int .i64 12)), none⟩,
  ⟨some 22, .call 14 [(.t 21)], none⟩,
  ⟨some 20, .mv (.t 22), none⟩,
  ⟨some 23, .ex 0 (.t 20), none⟩,
  ⟨some 24, .ex 1 (.t 20), none⟩,
  ⟨some 25, .ex 2 (.t 20), none⟩,
  ⟨some 4, .mv (.t 23), none⟩,
  ⟨some 5, .mv (.t 24), none⟩,
  ⟨some 6, .mv (.t 25), none⟩])
 (.seq (.reg [⟨some 27, .bsl (.ints .u8 [0]) 4 1 [(0, 1, (.c (.int .u8 1))), (1, 1, (.c (.int .u8 2))), (2, 1, (.c (.int .u8 0))), (3, 1, (.c (.int .u8 12)))], none⟩,
  ⟨some 28, .call 20 [(.c (.int .i64 16)), (.t 27)], none⟩,
  ⟨some 29, .call 14 [(.t 28)], none⟩,
  ⟨some 26, .mv (.t 29), none⟩,
  ⟨some 30, .ex 0 (.t 26), none⟩,
  ⟨some 31, .ex 1 (.t 26), none⟩,
  ⟨some 32, .ex 2 (.t 26), none⟩,
  ⟨some 7, .mv (.t 30), none⟩,
  ⟨some 8, .mv (.t 31), none⟩,
  ⟨some 9, .mv (.t 32), none⟩])
 (.seq (.reg [⟨some 34, .bsl (.ints .u8 [0]) 4 1 [(0, 1, (.c (.int .u8 1))), (1, 1, (.c (.int .u8 2))), (2, 1, (.c (.int .u8 0))), (3, 1, (.c (.int .u8 16)))], none⟩,
  ⟨some 35, .call 20 [(.c (.int .i64 9)), (.t 34)], none⟩,
  ⟨some 36, .call 14 [(.t 35)], none⟩,
  ⟨some 33, .mv (.t 36), none⟩,
  ⟨some 37, .ex 0 (.t 33), none⟩,
  ⟨some 38, .ex 1 (.t 33), none⟩,
  ⟨some 39, .ex 2 (.t 33), none⟩,
  ⟨some 10, .mv (.t 37), none⟩,
  ⟨some 11, .mv (.t 38), none⟩,
  ⟨some 12, .mv (.t 39), none⟩])
 (.seq (.reg [⟨some 40, .mv (.t 3), none⟩,
  ⟨some 41, .bin .eql [] (.t 40) (.c (.int .i64 0)), none⟩,
  ⟨some 42, .mv (.t 41), none⟩,
  ⟨some 43, .mv (.t 1), some (42, true)⟩,
  ⟨some 44, .len none (.t 43), some (42, true)⟩,
  ⟨some 45, .bin .eql [] (.t 44) (.c (.int .i64 1)), some (42, true)⟩,
  ⟨some 46, .pick (.t 42) (.t 45) (.c (.bool false)), none⟩,
  ⟨some 47, .mv (.t 46), none⟩,
  ⟨some 48, .mv (.t 1), some (47, true)⟩,
  ⟨some 49, .ia none 2 (.t 48) (.c (.int .i64 0)), some (47, true)⟩,
  ⟨some 50, .fa 0 (.t 49), some (47, true)⟩,
  ⟨some 51, .ld none (.t 50), some (47, true)⟩,
  ⟨some 52, .bin .eql [] (.t 51) (.c (.int .u16 258)), some (47, true)⟩,
  ⟨some 53, .pick (.t 47) (.t 52) (.c (.bool false)), none⟩,
  ⟨some 54, .mv (.t 53), none⟩,
  ⟨some 55, .mv (.t 1), some (54, true)⟩,
  ⟨some 56, .ia none 2 (.t 55) (.c (.int .i64 0)), some (54, true)⟩,
  ⟨some 57, .fa 1 (.t 56), some (54, true)⟩,
  ⟨some 58, .ld none (.t 57), some (54, true)⟩,
  ⟨some 59, .len none (.t 58), some (54, true)⟩,
  ⟨some 60, .bin .eql [] (.t 59) (.c (.int .i64 12)), some (54, true)⟩,
  ⟨some 61, .pick (.t 54) (.t 60) (.c (.bool false)), none⟩,
  ⟨some 62, .mv (.t 61), none⟩,
  ⟨some 63, .mv (.t 2), some (62, true)⟩,
  ⟨some 64, .len none (.t 63), some (62, true)⟩,
  ⟨some 65, .bin .eql [] (.t 64) (.c (.int .i64 0)), some (62, true)⟩,
  ⟨some 66, .pick (.t 62) (.t 65) (.c (.bool false)), none⟩,
  ⟨some 67, .mv (.t 66), none⟩,
  ⟨some 68, .mv (.t 6), some (67, true)⟩,
  ⟨some 69, .bin .eql [] (.t 68) (.c (.int .i64 0)), some (67, true)⟩,
  ⟨some 70, .pick (.t 67) (.t 69) (.c (.bool false)), none⟩,
  ⟨some 71, .mv (.t 70), none⟩,
  ⟨some 72, .mv (.t 4), some (71, true)⟩,
  ⟨some 73, .len none (.t 72), some (71, true)⟩,
  ⟨some 74, .bin .eql [] (.t 73) (.c (.int .i64 0)), some (71, true)⟩,
  ⟨some 75, .pick (.t 71) (.t 74) (.c (.bool false)), none⟩,
  ⟨some 76, .mv (.t 75), none⟩,
  ⟨some 77, .mv (.t 5), some (76, true)⟩,
  ⟨some 78, .len none (.t 77), some (76, true)⟩,
  ⟨some 79, .bin .eql [] (.t 78) (.c (.int .i64 12)), some (76, true)⟩,
  ⟨some 80, .pick (.t 76) (.t 79) (.c (.bool false)), none⟩,
  ⟨some 81, .mv (.t 80), none⟩,
  ⟨some 82, .mv (.t 9), some (81, true)⟩,
  ⟨some 83, .bin .eql [] (.t 82) (.c (.int .i64 5)), some (81, true)⟩,
  ⟨some 84, .pick (.t 81) (.t 83) (.c (.bool false)), none⟩,
  ⟨some 85, .mv (.t 84), none⟩,
  ⟨some 86, .mv (.t 12), some (85, true)⟩,
  ⟨some 87, .bin .eql [] (.t 86) (.c (.int .i64 4)), some (85, true)⟩,
  ⟨some 88, .pick (.t 85) (.t 87) (.c (.bool false)), none⟩,
  ⟨some 0, .mv (.t 88), none⟩])
 (.ret)))))),
 [.tmp 0], true⟩
/-- bytes.Equal -/
def M12 : MFunc := ⟨.seq (.reg [⟨some 4, .mv (.c (.bool false)), none⟩])
 (.seq (.reg [⟨some 5, .mv (.t 0), none⟩,
  ⟨some 6, .cstr (.t 5), none⟩,
  ⟨some 7, .mv (.t 1), none⟩,
  ⟨some 8, .cstr (.t 7), none⟩,
  ⟨some 9, .bin .eql [] (.t 6) (.t 8), none⟩,
  ⟨some 4, .mv (.t 9), none⟩])
 (.ret)),
 [.tmp 4], true⟩
/-- ephemeris/ephemerisref03.Own -/
def M13 : MFunc := ⟨.seq (.reg [⟨some 2, .mv (.c .nils), none⟩])
 (.seq (.reg [⟨some 3, .mv (.c .nils), none⟩])
 (.seq (.reg [⟨some 4, .mv (.t 3), none⟩,
  ⟨some 5, .mv (.t 0), none⟩,
  ⟨some 6, .app (.ints .u8 [0]) 1 (.t 4) (.t 5), none⟩,
  ⟨some 2, .mv (.t 6), none⟩])
 (.ret))),
 [.tmp 2], true⟩
/-- ephemeris/ext.Parse -/
def M14 : MFunc := ⟨.seq (.reg [⟨some 2, .mv (.c .nils), none⟩,
  ⟨some 3, .mv (.c .nils), none⟩,
  ⟨some 4, .mv (.c (.int .i64 0)), none⟩])
 (.scope [0, 5, 8] 0
 (.seq (.skip)
 (.seq (.seq (.reg [⟨some 9, .mv (.t 0), none⟩,
  ⟨some 10, .len none (.t 9), none⟩])
 (.block 0 [0, 5, 8]
 (.seq (.seq (.reg [⟨some 12, .bin .eql [] (.t 10) (.c (.int .i64 0)), none⟩,
  ⟨some 11, .mv (.t 12), none⟩])
 (.cond (.t 11)
 (.skip)
 (.reg [⟨some 13, .bin .eql [] (.t 10) (.c (.int .i64 12)), none⟩,
  ⟨some 11, .mv (.t 13), none⟩])))
 (.cond (.t 11)
 (.seq (.reg [⟨some 14, .mv (.t 5), none⟩,
  ⟨some 15, .mv (.t 0), none⟩,
  ⟨some 16, .call 28 [(.t 15)], none⟩,
  ⟨some 2, .mv (.t 14), none⟩,
  ⟨some 3, .mv (.t 16), none⟩,
  ⟨some 4, .mv (.c (.int .i64 0)), none⟩])
 (.ret))
 (.skip)))))
 (.seq (.seq (.reg [⟨some 17, .mv (.t 0), none⟩,
  ⟨some 18, .len none (.t 17), none⟩,
  ⟨some 19, .bin .lss [] (.t 18) (.c (.int .i64 16)), none⟩])
 (.cond (.t 19)
 (.goto 1)
 (.skip)))
 (.seq (.reg [⟨some 21, .bsl (.ints .i64 [0]) 2 1 [(0, 1, (.c (.int .i64 2))), (1, 1, (.c (.int .i64 2)))], none⟩,
  ⟨some 22, .mv (.t 0), none⟩,
  ⟨some 23, .call 29 [(.t 21), (.t 22)], none⟩,
  ⟨some 20, .mv (.t 23), none⟩,
  ⟨some 24, .ex 0 (.t 20), none⟩,
  ⟨some 25, .ex 1 (.t 20), none⟩,
  ⟨some 26, .ex 2 (.t 20), none⟩,
  ⟨some 6, .mv (.t 24), none⟩,
  ⟨some 0, .mv (.t 25), none⟩])
 (.seq (.reg [⟨some 27, .mv (.t 6), none⟩,
  ⟨some 28, .ia none 1 (.t 27) (.c (.int .i64 1)), none⟩,
  ⟨some 29, .ld none (.t 28), none⟩,
  ⟨some 30, .ci .i64 (.t 29), none⟩,
  ⟨some 31, .bin .sub [] (.t 30) (.c (.int .i64 4)), none⟩,
  ⟨some 7, .mv (.t 31), none⟩])
 (.seq (.block 1 [0, 5, 6, 7, 8]
 (.seq (.reg [⟨some 33, .mv (.t 7), none⟩,
  ⟨some 34, .call 30 [(.t 33)], none⟩,
  ⟨some 35, .un .not (.t 34), none⟩,
  ⟨some 32, .mv (.t 35), none⟩])
 (.cond (.t 32)
 (.seq (.reg [⟨some 8, .mv (.c (.int .i64 5)), none⟩])
 (.goto 1))
 (.seq (.reg [⟨some 37, .mv (.t 7), none⟩,
  ⟨some 38, .mv (.t 0), none⟩,
  ⟨some 39, .len none (.t 38), none⟩,
  ⟨some 40, .bin .gtr [] (.t 37) (.t 39), none⟩,
  ⟨some 36, .mv (.t 40), none⟩])
 (.cond (.t 36)
 (.goto 1)
 (.seq (.reg [⟨some 42, .mv (.t 5), none⟩,
  ⟨some 43, .len none (.t 42), none⟩,
  ⟨some 44, .bin .eql [] (.t 43) (.c (.int .i64 8)), none⟩,
  ⟨some 41, .mv (.t 44), none⟩])
 (.cond (.t 41)
 (.seq (.reg [⟨some 8, .mv (.c (.int .i64 7)), none⟩])
 (.goto 1))
 (.skip))))))))
 (.seq (.regd [(0, ⟨some 45, .mv (.t 5), none⟩),
  (1, ⟨some 46, .mv (.t 6), none⟩),
  (2, ⟨some 47, .ia none 1 (.t 46) (.c (.int .i64 0)), none⟩),
  (3, ⟨some 48, .ld none (.t 47), none⟩),
  (4, ⟨some 49, .ci .u16 (.t 48), none⟩),
  (5, ⟨some 50, .mv (.t 0), none⟩),
  (6, ⟨some 51, .mv (.t 7), none⟩),
  (7, ⟨some 52, .slc none 1 (.t 50) none (some (.t 51)) none, none⟩),
  (8, ⟨some 53, .call 28 [(.t 52)], none⟩),
  (9, ⟨some 54, .bld [(.int .u16 0), .nils] [(0, 1, (.t 49)), (1, 1, (.t 53))], none⟩),
  (10, ⟨some 55, .bsl (.vals [(.int .u16 0), .nils]) 1 2 [(0, 2, (.t 54))], none⟩),
  (11, ⟨some 56, .app (.vals [(.int .u16 0), .nils]) 32 (.t 45) (.t 55), none⟩),
  (12, ⟨some 5, .mv (.t 56), none⟩)] [(3, 8)])
 (.seq (.reg [⟨some 57, .mv (.t 0), none⟩,
  ⟨some 58, .mv (.t 7), none⟩,
  ⟨some 59, .slc none 1 (.t 57) (some (.t 58)) none none, none⟩,
  ⟨some 0, .mv (.t 59), none⟩])
 (.seq (.goto 0)
 (.seq (.skip)
 (.seq (.reg [⟨some 60, .mv (.t 8), none⟩,
  ⟨some 2, .mv (.c .nils), none⟩,
  ⟨some 3, .mv (.c .nils), none⟩,
  ⟨some 4, .mv (.t 60), none⟩])
 (.ret)))))))))))) 1
 (.seq (.skip)
 (.seq (.reg [⟨some 60, .mv (.t 8), none⟩,
  ⟨some 2, .mv (.c .nils), none⟩,
  ⟨some 3, .mv (.c .nils), none⟩,
  ⟨some 4, .mv (.t 60), none⟩])
 (.ret)))
 (.seq (.reg [⟨some 5, .mv (.c .nils), none⟩])
 (.seq (.reg [⟨some 6, .mv (.c .nils), none⟩])
 (.seq (.reg [⟨some 7, .mv (.c (.int .i64 0)), none⟩])
 (.seq (.reg [⟨some 8, .mv (.c (.int .i64 4)), none⟩])
 (.seq (.skip)
 (.seq (.seq (.reg [⟨some 9, .mv (.t 0), none⟩,
  ⟨some 10, .len none (.t 9), none⟩])
 (.block 0 [0, 5, 8]
 (.seq (.seq (.reg [⟨some 12, .bin .eql [] (.t 10) (.c (.int .i64 0)), none⟩,
  ⟨some 11, .mv (.t 12), none⟩])
 (.cond (.t 11)
 (.skip)
 (.reg [⟨some 13, .bin .eql [] (.t 10) (.c (.int .i64 12)), none⟩,
  ⟨some 11, .mv (.t 13), none⟩])))
 (.cond (.t 11)
 (.seq (.reg [⟨some 14, .mv (.t 5), none⟩,
  ⟨some 15, .mv (.t 0), none⟩,
  ⟨some 16, .call 28 [(.t 15)], none⟩,
  ⟨some 2, .mv (.t 14), none⟩,
  ⟨some 3, .mv (.t 16), none⟩,
  ⟨some 4, .mv (.c (.int .i64 0)), none⟩])
 (.ret))
 (.skip)))))
 (.seq (.seq (.reg [⟨some 17, .mv (.t 0), none⟩,
  ⟨some 18, .len none (.t 17), none⟩,
  ⟨some 19, .bin .lss [] (.t 18) (.c (.int .i64 16)), none⟩])
 (.cond (.t 19)
 (.goto 1)
 (.skip)))
 (.seq (.reg [⟨some 21, .bsl (.ints .i64 [0]) 2 1 [(0, 1, (.c (.int .i64 2))), (1, 1, (.c (.int .i64 2)))], none⟩,
  ⟨some 22, .mv (.t 0), none⟩,
  ⟨some 23, .call 29 [(.t 21), (.t 22)], none⟩,
  ⟨some 20, .mv (.t 23), none⟩,
  ⟨some 24, .ex 0 (.t 20), none⟩,
  ⟨some 25, .ex 1 (.t 20), none⟩,
  ⟨some 26, .ex 2 (.t 20), none⟩,
  ⟨some 6, .mv (.t 24), none⟩,
  ⟨some 0, .mv (.t 25), none⟩])
 (.seq (.reg [⟨some 27, .mv (.t 6), none⟩,
  ⟨some 28, .ia none 1 (.t 27) (.c (.int .i64 1)), none⟩,
  ⟨some 29, .ld none (.t 28), none⟩,
  ⟨some 30, .ci .i64 (.t 29), none⟩,
  ⟨some 31, .bin .sub [] (.t 30) (.c (.int .i64 4)), none⟩,
  ⟨some 7, .mv (.t 31), none⟩])
 (.seq (.block 1 [0, 5, 6, 7, 8]
 (.seq (.reg [⟨some 33, .mv (.t 7), none⟩,
  ⟨some 34, .call 30 [(.t 33)], none⟩,
  ⟨some 35, .un .not (.t 34), none⟩,
  ⟨some 32, .mv (.t 35), none⟩])
 (.cond (.t 32)
 (.seq (.reg [⟨some 8, .mv (.c (.int .i64 5)), none⟩])
 (.goto 1))
 (.seq (.reg [⟨some 37, .mv (.t 7), none⟩,
  ⟨some 38, .mv (.t 0), none⟩,
  ⟨some 39, .len none (.t 38), none⟩,
  ⟨some 40, .bin .gtr [] (.t 37) (.t 39), none⟩,
  ⟨some 36, .mv (.t 40), none⟩])
 (.cond (.t 36)
 (.goto 1)
 (.seq (.reg [⟨some 42, .mv (.t 5), none⟩,
  ⟨some 43, .len none (.t 42), none⟩,
  ⟨some 44, .bin .eql [] (.t 43) (.c (.int .i64 8)), none⟩,
  ⟨some 41, .mv (.t 44), none⟩])
 (.cond (.t 41)
 (.seq (.reg [⟨some 8, .mv (.c (.int .i64 7)), none⟩])
 (.goto 1))
 (.skip))))))))
 (.seq (.regd [(0, ⟨some 45, .mv (.t 5), none⟩),
  (1, ⟨some 46, .mv (.t 6), none⟩),
  (2, ⟨some 47, .ia none 1 (.t 46) (.c (.int .i64 0)), none⟩),
  (3, ⟨some 48, .ld none (.t 47), none⟩),
  (4, ⟨some 49, .ci .u16 (.t 48), none⟩),
  (5, ⟨some 50, .mv (.t 0), none⟩),
  (6, ⟨some 51, .mv (.t 7), none⟩),
  (7, ⟨some 52, .slc none 1 (.t 50) none (some (.t 51)) none, none⟩),
  (8, ⟨some 53, .call 28 [(.t 52)], none⟩),
  (9, ⟨some 54, .bld [(.int .u16 0), .nils] [(0, 1, (.t 49)), (1, 1, (.t 53))], none⟩),
  (10, ⟨some 55, .bsl (.vals [(.int .u16 0), .nils]) 1 2 [(0, 2, (.t 54))], none⟩),
  (11, ⟨some 56, .app (.vals [(.int .u16 0), .nils]) 32 (.t 45) (.t 55), none⟩),
  (12, ⟨some 5, .mv (.t 56), none⟩)] [(3, 8)])
 (.seq (.reg [⟨some 57, .mv (.t 0), none⟩,
  ⟨some 58, .mv (.t 7), none⟩,
  ⟨some 59, .slc none 1 (.t 57) (some (.t 58)) none none, none⟩,
  ⟨some 0, .mv (.t 59), none⟩])
 (.seq (.goto 0)
 (.seq (.skip)
 (.seq (.reg [⟨some 60, .mv (.t 8), none⟩,
  ⟨some 2, .mv (.c .nils), none⟩,
  ⟨some 3, .mv (.c .nils), none⟩,
  ⟨some 4, .mv (.t 60), none⟩])
 (.ret))))))))))))))))),
 [.tmp 2, .tmp 3, .tmp 4], true⟩
/-- ephemeris/ephemerisref05.Parse -/
def M15 : MFunc := ⟨.seq (.reg [⟨some 2, .mv (.c .nils), none⟩,
  ⟨some 3, .mv (.c .nils), none⟩,
  ⟨some 4, .mv (.c (.int .i64 0)), none⟩])
 (.seq (.reg [⟨some 5, .mv (.c .nils), none⟩])
 (.seq (.block 0 [0, 5]
 (.loop [0, 5]
 (.seq (.seq (.reg [⟨some 7, .mv (.t 0), none⟩,
  ⟨some 8, .len none (.t 7), none⟩,
  ⟨some 9, .bin .neq [] (.t 8) (.c (.int .i64 0)), none⟩,
  ⟨some 10, .mv (.t 9), none⟩,
  ⟨some 11, .mv (.t 0), some (10, true)⟩,
  ⟨some 12, .len none (.t 11), some (10, true)⟩,
  ⟨some 13, .bin .neq [] (.t 12) (.c (.int .i64 12)), some (10, true)⟩,
  ⟨some 14, .pick (.t 10) (.t 13) (.c (.bool false)), none⟩])
 (.cond (.t 14)
 (.skip)
 (.exit 0)))
 (.block 1 [0, 5]
 (.seq (.seq (.reg [⟨some 15, .mv (.t 0), none⟩,
  ⟨some 16, .len none (.t 15), none⟩,
  ⟨some 17, .bin .lss [] (.t 16) (.c (.int .i64 16)), none⟩])
 (.cond (.t 17)
 (.seq (.reg [⟨some 2, .mv (.c .nils), none⟩,
  ⟨some 3, .mv (.c .nils), none⟩,
  ⟨some 4, .mv (.c (.int .i64 4)), none⟩])
 (.ret))
 (.skip)))
 (.seq (.regd [(0, ⟨some 18, .mv (.t 0), none⟩),
  (1, ⟨some 19, .ia none 1 (.t 18) (.c (.int .i64 2)), none⟩),
  (2, ⟨some 20, .ld none (.t 19), none⟩),
  (3, ⟨some 21, .ci .i64 (.t 20), none⟩),
  (4, ⟨some 22, .bin .mul [] (.t 21) (.c (.int .i64 256)), none⟩),
  (5, ⟨some 23, .mv (.t 0), none⟩),
  (6, ⟨some 24, .ia none 1 (.t 23) (.c (.int .i64 3)), none⟩),
  (7, ⟨some 25, .ld none (.t 24), none⟩),
  (8, ⟨some 26, .ci .i64 (.t 25), none⟩),
  (9, ⟨some 27, .bin .add [] (.t 22) (.t 26), none⟩),
  (10, ⟨some 28, .bin .sub [] (.t 27) (.c (.int .i64 4)), none⟩),
  (11, ⟨some 6, .mv (.t 28), none⟩)] [])
 (.seq (.seq (.reg [⟨some 29, .mv (.t 6), none⟩,
  ⟨some 30, .call 31 [(.t 29)], none⟩,
  ⟨some 31, .un .not (.t 30), none⟩])
 (.cond (.t 31)
 (.seq (.reg [⟨some 2, .mv (.c .nils), none⟩,
  ⟨some 3, .mv (.c .nils), none⟩,
  ⟨some 4, .mv (.c (.int .i64 5)), none⟩])
 (.ret))
 (.skip)))
 (.seq (.seq (.reg [⟨some 32, .mv (.t 6), none⟩,
  ⟨some 33, .bin .add [] (.t 32) (.c (.int .i64 4)), none⟩,
  ⟨some 34, .mv (.t 0), none⟩,
  ⟨some 35, .len none (.t 34), none⟩,
  ⟨some 36, .bin .gtr [] (.t 33) (.t 35), none⟩])
 (.cond (.t 36)
 (.seq (.reg [⟨some 2, .mv (.c .nils), none⟩,
  ⟨some 3, .mv (.c .nils), none⟩,
  ⟨some 4, .mv (.c (.int .i64 4)), none⟩])
 (.ret))
 (.skip)))
 (.seq (.seq (.reg [⟨some 37, .mv (.t 5), none⟩,
  ⟨some 38, .len none (.t 37), none⟩,
  ⟨some 39, .bin .geq [] (.t 38) (.c (.int .i64 8)), none⟩])
 (.cond (.t 39)
 (.seq (.reg [⟨some 2, .mv (.c .nils), none⟩,
  ⟨some 3, .mv (.c .nils), none⟩,
  ⟨some 4, .mv (.c (.int .i64 7)), none⟩])
 (.ret))
 (.skip)))
 (.seq (.regd [(0, ⟨some 40, .mv (.t 5), none⟩),
  (1, ⟨some 41, .mv (.t 0), none⟩),
  (2, ⟨some 42, .ia none 1 (.t 41) (.c (.int .i64 0)), none⟩),
  (3, ⟨some 43, .ld none (.t 42), none⟩),
  (4, ⟨some 44, .ci .u16 (.t 43), none⟩),
  (5, ⟨some 45, .bin .mul [] (.t 44) (.c (.int .u16 256)), none⟩),
  (6, ⟨some 46, .mv (.t 0), none⟩),
  (7, ⟨some 47, .ia none 1 (.t 46) (.c (.int .i64 1)), none⟩),
  (8, ⟨some 48, .ld none (.t 47), none⟩),
  (9, ⟨some 49, .ci .u16 (.t 48), none⟩),
  (10, ⟨some 50, .bin .add [] (.t 45) (.t 49), none⟩),
  (11, ⟨some 51, .mv (.t 0), none⟩),
  (12, ⟨some 52, .mv (.t 6), none⟩),
  (13, ⟨some 53, .bin .add [] (.t 52) (.c (.int .i64 4)), none⟩),
  (14, ⟨some 54, .slc none 1 (.t 51) (some (.c (.int .i64 4))) (some (.t 53)) none, none⟩),
  (15, ⟨some 55, .call 13 [(.t 54)], none⟩),
  (16, ⟨some 56, .bld [(.int .u16 0), .nils] [(0, 1, (.t 50)), (1, 1, (.t 55))], none⟩),
  (17, ⟨some 57, .bsl (.vals [(.int .u16 0), .nils]) 1 2 [(0, 2, (.t 56))], none⟩),
  (18, ⟨some 58, .app (.vals [(.int .u16 0), .nils]) 32 (.t 40) (.t 57), none⟩),
  (19, ⟨some 5, .mv (.t 58), none⟩)] [(3, 15), (8, 15)])
 (.reg [⟨some 59, .mv (.t 0), none⟩,
  ⟨some 60, .mv (.t 6), none⟩,
  ⟨some 61, .bin .add [] (.t 60) (.c (.int .i64 4)), none⟩,
  ⟨some 62, .slc none 1 (.t 59) (some (.t 61)) none none, none⟩,
  ⟨some 0, .mv (.t 62), none⟩])))))))))))
 (.seq (.reg [⟨some 63, .mv (.t 5), none⟩,
  ⟨some 64, .mv (.t 0), none⟩,
  ⟨some 65, .call 13 [(.t 64)], none⟩,
  ⟨some 2, .mv (.t 63), none⟩,
  ⟨some 3, .mv (.t 65), none⟩,
  ⟨some 4, .mv (.c (.int .i64 0)), none⟩])
 (.ret)))),
 [.tmp 2, .tmp 3, .tmp 4], true⟩
/-- ephemeris/ext.Same -/
def M16 : MFunc := ⟨.seq (.reg [⟨some 4, .mv (.c (.bool false)), none⟩])
 (.seq (.reg [⟨some 5, .mv (.t 0), none⟩,
  ⟨some 6, .mv (.t 1), none⟩,
  ⟨some 7, .call 32 [(.t 5), (.t 6), (.f 33)], none⟩,
  ⟨some 4, .mv (.t 7), none⟩])
 (.ret)),
 [.tmp 4], true⟩
/-- ephemeris/ephemerisref05.Same -/
def M17 : MFunc := ⟨.seq (.reg [⟨some 4, .mv (.c (.bool false)), none⟩])
 (.seq (.seq (.reg [⟨some 6, .mv (.t 0), none⟩,
  ⟨some 7, .len none (.t 6), none⟩,
  ⟨some 8, .mv (.t 1), none⟩,
  ⟨some 9, .len none (.t 8), none⟩,
  ⟨some 10, .bin .neq [] (.t 7) (.t 9), none⟩])
 (.cond (.t 10)
 (.seq (.reg [⟨some 4, .mv (.c (.bool false)), none⟩])
 (.ret))
 (.skip)))
 (.seq (.seq (.reg [⟨some 5, .mv (.c (.int .i64 0)), none⟩])
 (.block 0 []
 (.loop [0, 1, 5]
 (.seq (.seq (.reg [⟨some 11, .mv (.t 5), none⟩,
  ⟨some 12, .mv (.t 0), none⟩,
  ⟨some 13, .len none (.t 12), none⟩,
  ⟨some 14, .bin .lss [] (.t 11) (.t 13), none⟩])
 (.cond (.t 14)
 (.skip)
 (.exit 0)))
 (.seq (.block 1 [0, 1, 5]
 (.seq (.regd [(0, ⟨some 17, .mv (.t 0), none⟩),
  (1, ⟨some 18, .mv (.t 5), none⟩),
  (2, ⟨some 19, .ia none 2 (.t 17) (.t 18), none⟩),
  (3, ⟨some 20, .fa 0 (.t 19), none⟩),
  (4, ⟨some 21, .ld none (.t 20), none⟩),
  (5, ⟨some 22, .mv (.t 1), none⟩),
  (6, ⟨some 23, .mv (.t 5), none⟩),
  (7, ⟨some 24, .ia none 2 (.t 22) (.t 23), none⟩),
  (8, ⟨some 25, .fa 0 (.t 24), none⟩),
  (9, ⟨some 26, .ld none (.t 25), none⟩),
  (10, ⟨some 27, .bin .neq [] (.t 21) (.t 26), none⟩),
  (11, ⟨some 28, .mv (.t 27), none⟩),
  (12, ⟨some 29, .mv (.t 0), some (28, false)⟩),
  (13, ⟨some 30, .mv (.t 5), some (28, false)⟩),
  (14, ⟨some 31, .ia none 2 (.t 29) (.t 30), some (28, false)⟩),
  (15, ⟨some 32, .fa 1 (.t 31), some (28, false)⟩),
  (16, ⟨some 33, .ld none (.t 32), some (28, false)⟩),
  (17, ⟨some 34, .cstr (.t 33), some (28, false)⟩),
  (18, ⟨some 35, .mv (.t 1), some (28, false)⟩),
  (19, ⟨some 36, .mv (.t 5), some (28, false)⟩),
  (20, ⟨some 37, .ia none 2 (.t 35) (.t 36), some (28, false)⟩),
  (21, ⟨some 38, .fa 1 (.t 37), some (28, false)⟩),
  (22, ⟨some 39, .ld none (.t 38), some (28, false)⟩),
  (23, ⟨some 40, .cstr (.t 39), some (28, false)⟩),
  (24, ⟨some 41, .bin .neq [] (.t 34) (.t 40), some (28, false)⟩),
  (25, ⟨some 42, .pick (.t 28) (.c (.bool true)) (.t 41), none⟩)] [])
 (.cond (.t 42)
 (.seq (.reg [⟨some 4, .mv (.c (.bool false)), none⟩])
 (.ret))
 (.skip))))
 (.reg [⟨some 15, .mv (.t 5), none⟩,
  ⟨some 16, .bin .add [] (.t 15) (.c (.int .i64 1)), none⟩,
  ⟨some 5, .mv (.t 16), none⟩]))))))
 (.seq (.reg [⟨some 4, .mv (.c (.bool true)), none⟩])
 (.ret)))),
 [.tmp 4], true⟩
/-- ephemeris/ephemerislaw05.ExtKnown_1 -/
def M18 : MFunc := ⟨.seq (.reg [⟨some 2, .mv (.c .nils), none⟩])
 (.seq (.reg [⟨some 3, .mv (.t 0), none⟩,
  ⟨some 4, .mks (.ints .u8 [0]) 1 (.t 3) (.t 3), none⟩,
  ⟨some 5, .bld [(.int .u16 0), .nils] [(0, 1, (.c (.int .u16 1))), (1, 1, (.t 4))], none⟩,
  ⟨some 6, .bsl (.vals [(.int .u16 0), .nils]) 1 2 [(0, 2, (.t 5))], none⟩,
  ⟨some 2, .mv (.t 6), none⟩])
 (.ret)),
 [.tmp 2], true⟩
/-- ephemeris/ext.Put -/
def M19 : MFunc := ⟨.seq (.reg [⟨some 2, .mv (.c .nils), none⟩,
  ⟨some 3, .mv (.c (.int .i64 0)), none⟩])
 (.seq (.seq (.reg [⟨some 9, .mv (.t 0), none⟩,
  ⟨some 10, .call 21 [(.t 9)], none⟩,
  ⟨some 11, .un .not (.t 10), none⟩])
 (.cond (.t 11)
 (.seq (.reg [⟨some 2, .mv (.c .nils), none⟩,
  ⟨some 3, .mv (.c (.int .i64 1)), none⟩])
 (.ret))
 (.skip)))
 (.seq (.reg [⟨some 4, .mv (.c .nils), none⟩])
 (.seq (.seq (.reg [⟨some 12, .mv (.t 0), none⟩,
  ⟨some 13, .len none (.t 12), none⟩,
  ⟨some 14, .mv (.c (.int .i64 0)), none⟩])
 (.block 0 [4]
 (.loop [4, 12, 13, 14]
 (.seq (.reg [⟨some 15, .bin .lss [] (.t 14) (.t 13), none⟩])
 (.seq (.cond (.t 15)
 (.skip)
 (.exit 0))
 (.seq (.block 1 [4, 12, 13, 14]
 (.seq (.reg [⟨some 16, .ia none 2 (.t 12) (.t 14), none⟩,
  ⟨some 17, .ld (some 2) (.t 16), none⟩,
  ⟨some 6, .al (.vals [(.int .u16 0), .nils]), none⟩,
  ⟨none, .st 2 (.t 6) (.t 17), none⟩])
 (.seq (.reg [⟨some 19, .bsl (.ints .i64 [0]) 2 1 [(0, 1, (.c (.int .i64 2))), (1, 1, (.c (.int .i64 2)))], none⟩,
  ⟨some 20, .fa 0 (.t 6), none⟩,
  ⟨some 21, .ld none (.t 20), none⟩,
  ⟨some 22, .ci .u64 (.t 21), none⟩,
  ⟨some 23, .fa 1 (.t 6), none⟩,
  ⟨some 24, .ld none (.t 23), none⟩,
  ⟨some 25, .len none (.t 24), none⟩,
  ⟨some 26, .bin .add [] (.t 25) (.c (.int .i64 4)), none⟩,
  ⟨some 27, .ci .u64 (.t 26), none⟩,
  ⟨some 28, .bsl (.ints .u64 [0]) 2 1 [(0, 1, (.t 22)), (1, 1, (.t 27))], none⟩,
  ⟨some 29, .call 34 [(.t 19), (.t 28)], none⟩,
  ⟨some 18, .mv (.t 29), none⟩,
  ⟨some 30, .ex 0 (.t 18), none⟩,
  ⟨some 31, .ex 1 (.t 18), none⟩,
  ⟨some 7, .mv (.t 30), none⟩,
  ⟨some 8, .mv (.t 31), none⟩])
 (.regd [(0, ⟨some 32, .mv (.t 4), none⟩),
  (1, ⟨some 33, .mv (.t 7), none⟩),
  (2, ⟨some 34, .app (.ints .u8 [0]) 1 (.t 32) (.t 33), none⟩),
  (3, ⟨some 35, .fa 1 (.t 6), none⟩),
  (4, ⟨some 36, .ld none (.t 35), none⟩),
  (5, ⟨some 37, .app (.ints .u8 [0]) 1 (.t 34) (.t 36), none⟩),
  (6, ⟨some 4, .mv (.t 37), none⟩)] [(4, 2)]))))
 (.reg [⟨some 38, .bin .add [] (.t 14) (.c (.int .i64 1)), none⟩,
  ⟨some 14, .mv (.t 38), none⟩])))))))
 (.seq (.reg [⟨some 39, .mv (.t 4), none⟩,
  ⟨some 2, .mv (.t 39), none⟩,
  ⟨some 3, .mv (.c (.int .i64 0)), none⟩])
 (.ret))))),
 [.tmp 2, .tmp 3], true⟩
/-- ephemeris/ephemerislaw05.bytesOf -/
def M20 : MFunc := ⟨.seq (.reg [⟨some 4, .mv (.c .nils), none⟩])
 (.seq (.reg [⟨some 5, .mv (.t 1), none⟩,
  ⟨some 6, .mv (.t 0), none⟩,
  ⟨some 7, .appz (.ints .u8 [0]) 1 (.t 5) (.t 6), none⟩,
  ⟨some 4, .mv (.t 7), none⟩])
 (.ret)),
 [.tmp 4], true⟩
/-- ephemeris/ext.May -/
def M21 : MFunc := ⟨.seq (.reg [⟨some 2, .mv (.c (.bool false)), none⟩])
 (.seq (.reg [⟨some 3, .mv (.t 0), none⟩,
  ⟨some 4, .len none (.t 3), none⟩,
  ⟨some 5, .bin .leq [] (.t 4) (.c (.int .i64 8)), none⟩,
  ⟨some 6, .mv (.t 5), none⟩,
  ⟨some 7, .mv (.t 0), some (6, true)⟩,
  ⟨some 8, .call 35 [(.t 7), (.f 36)], some (6, true)⟩,
  ⟨some 9, .un .not (.t 8), some (6, true)⟩,
  ⟨some 10, .pick (.t 6) (.t 9) (.c (.bool false)), none⟩,
  ⟨some 2, .mv (.t 10), none⟩])
 (.ret)),
 [.tmp 2], true⟩
/-- ephemeris/ephemerislaw05.Few -/
def M22 : MFunc := ⟨.seq (.reg [⟨some 2, .mv (.c .nils), none⟩])
 (.seq (.reg [⟨some 5, .bsl (.vals [(.int .u16 0), .nils]) 0 2 [], none⟩,
  ⟨some 6, .mv (.t 0), none⟩,
  ⟨some 7, .mv (.t 0), none⟩,
  ⟨some 8, .len none (.t 7), none⟩,
  ⟨some 9, .mnx false [(.t 8), (.c (.int .i64 12))], none⟩,
  ⟨some 10, .slc none 2 (.t 6) none (some (.t 9)) none, none⟩,
  ⟨some 11, .app (.vals [(.int .u16 0), .nils]) 32 (.t 5) (.t 10), none⟩,
  ⟨some 3, .mv (.t 11), none⟩])
 (.seq (.seq (.reg [⟨some 12, .mv (.t 3), none⟩,
  ⟨some 13, .len none (.t 12), none⟩,
  ⟨some 14, .mv (.c (.int .i64 0)), none⟩])
 (.block 0 [3]
 (.loop [3, 13, 14]
 (.seq (.reg [⟨some 15, .bin .lss [] (.t 14) (.t 13), none⟩])
 (.seq (.cond (.t 15)
 (.skip)
 (.exit 0))
 (.seq (.block 1 [3, 13, 14]
 (.seq (.reg [⟨some 16, .mv (.t 14), none⟩,
  ⟨some 4, .mv (.t 16), none⟩])
 (.regd [(0, ⟨some 17, .mv (.t 3), none⟩),
  (1, ⟨some 18, .mv (.t 4), none⟩),
  (2, ⟨some 19, .mv (.t 3), none⟩),
  (3, ⟨some 20, .mv (.t 4), none⟩),
  (4, ⟨some 21, .ia none 2 (.t 19) (.t 20), none⟩),
  (5, ⟨some 22, .fa 1 (.t 21), none⟩),
  (6, ⟨some 23, .ld none (.t 22), none⟩),
  (7, ⟨some 24, .mv (.t 3), none⟩),
  (8, ⟨some 25, .mv (.t 4), none⟩),
  (9, ⟨some 26, .ia none 2 (.t 24) (.t 25), none⟩),
  (10, ⟨some 27, .fa 1 (.t 26), none⟩),
  (11, ⟨some 28, .ld none (.t 27), none⟩),
  (12, ⟨some 29, .len none (.t 28), none⟩),
  (13, ⟨some 30, .mnx false [(.t 29), (.c (.int .i64 600))], none⟩),
  (14, ⟨some 31, .slc none 1 (.t 23) none (some (.t 30)) none, none⟩),
  (15, ⟨some 32, .ia none 2 (.t 17) (.t 18), none⟩),
  (16, ⟨some 33, .fa 1 (.t 32), none⟩),
  (17, ⟨none, .st 1 (.t 33) (.t 31), none⟩)] [])))
 (.reg [⟨some 34, .bin .add [] (.t 14) (.c (.int .i64 1)), none⟩,
  ⟨some 14, .mv (.t 34), none⟩])))))))
 (.seq (.reg [⟨some 35, .mv (.t 3), none⟩,
  ⟨some 2, .mv (.t 35), none⟩])
 (.ret)))),
 [.tmp 2], true⟩
/-- ephemeris/ephemerisref05.Put -/
def M23 : MFunc := ⟨.seq (.reg [⟨some 2, .mv (.c .nils), none⟩,
  ⟨some 3, .mv (.c (.int .i64 0)), none⟩])
 (.seq (.seq (.reg [⟨some 7, .mv (.t 0), none⟩,
  ⟨some 8, .call 25 [(.t 7)], none⟩,
  ⟨some 9, .un .not (.t 8), none⟩])
 (.cond (.t 9)
 (.seq (.reg [⟨some 2, .mv (.c .nils), none⟩,
  ⟨some 3, .mv (.c (.int .i64 1)), none⟩])
 (.ret))
 (.skip)))
 (.seq (.reg [⟨some 4, .mv (.c .nils), none⟩])
 (.seq (.seq (.reg [⟨some 5, .mv (.c (.int .i64 0)), none⟩])
 (.block 0 [4]
 (.loop [0, 4, 5]
 (.seq (.seq (.reg [⟨some 10, .mv (.t 5), none⟩,
  ⟨some 11, .mv (.t 0), none⟩,
  ⟨some 12, .len none (.t 11), none⟩,
  ⟨some 13, .bin .lss [] (.t 10) (.t 12), none⟩])
 (.cond (.t 13)
 (.skip)
 (.exit 0)))
 (.seq (.block 1 [0, 4, 5]
 (.seq (.reg [⟨some 16, .mv (.t 0), none⟩,
  ⟨some 17, .mv (.t 5), none⟩,
  ⟨some 18, .ia none 2 (.t 16) (.t 17), none⟩,
  ⟨some 19, .fa 1 (.t 18), none⟩,
  ⟨some 20, .ld none (.t 19), none⟩,
  ⟨some 21, .len none (.t 20), none⟩,
  ⟨some 22, .bin .add [] (.t 21) (.c (.int .i64 4)), none⟩,
  ⟨some 6, .mv (.t 22), none⟩])
 (.seq (.regd [(0, ⟨some 23, .mv (.t 4), none⟩),
  (1, ⟨some 24, .mv (.t 0), none⟩),
  (2, ⟨some 25, .mv (.t 5), none⟩),
  (3, ⟨some 26, .ia none 2 (.t 24) (.t 25), none⟩),
  (4, ⟨some 27, .fa 0 (.t 26), none⟩),
  (5, ⟨some 28, .ld none (.t 27), none⟩),
  (6, ⟨some 29, .bin .quo [] (.t 28) (.c (.int .u16 256)), none⟩),
  (7, ⟨some 30, .ci .u8 (.t 29), none⟩),
  (8, ⟨some 31, .mv (.t 0), none⟩),
  (9, ⟨some 32, .mv (.t 5), none⟩),
  (10, ⟨some 33, .ia none 2 (.t 31) (.t 32), none⟩),
  (11, ⟨some 34, .fa 0 (.t 33), none⟩),
  (12, ⟨some 35, .ld none (.t 34), none⟩),
  (13, ⟨some 36, .bin .rem [] (.t 35) (.c (.int .u16 256)), none⟩),
  (14, ⟨some 37, .ci .u8 (.t 36), none⟩),
  (15, ⟨some 38, .mv (.t 6), none⟩),
  (16, ⟨some 39, .bin .quo [] (.t 38) (.c (.int .i64 256)), none⟩),
  (17, ⟨some 40, .ci .u8 (.t 39), none⟩),
  (18, ⟨some 41, .mv (.t 6), none⟩),
  (19, ⟨some 42, .bin .rem [] (.t 41) (.c (.int .i64 256)), none⟩),
  (20, ⟨some 43, .ci .u8 (.t 42), none⟩),
  (21, ⟨some 44, .bsl (.ints .u8 [0]) 4 1 [(0, 1, (.t 30)), (1, 1, (.t 37)), (2, 1, (.t 40)), (3, 1, (.t 43))], none⟩),
  (22, ⟨some 45, .app (.ints .u8 [0]) 1 (.t 23) (.t 44), none⟩),
  (23, ⟨some 4, .mv (.t 45), none⟩)] [])
 (.reg [⟨some 46, .mv (.t 4), none⟩,
  ⟨some 47, .mv (.t 0), none⟩,
  ⟨some 48, .mv (.t 5), none⟩,
  ⟨some 49, .ia none 2 (.t 47) (.t 48), none⟩,
  ⟨some 50, .fa 1 (.t 49), none⟩,
  ⟨some 51, .ld none (.t 50), none⟩,
  ⟨some 52, .app (.ints .u8 [0]) 1 (.t 46) (.t 51), none⟩,
  ⟨some 4, .mv (.t 52), none⟩]))))
 (.reg [⟨some 14, .mv (.t 5), none⟩,
  ⟨some 15, .bin .add [] (.t 14) (.c (.int .i64 1)), none⟩,
  ⟨some 5, .mv (.t 15), none⟩]))))))
 (.seq (.reg [⟨some 53, .mv (.t 4), none⟩,
  ⟨some 2, .mv (.t 53), none⟩,
  ⟨some 3, .mv (.c (.int .i64 0)), none⟩])
 (.ret))))),
 [.tmp 2, .tmp 3], true⟩
/-- ephemeris/ephemerisref05.Find -/
def M24 : MFunc := ⟨.seq (.reg [⟨some 4, .mv (.c .nils), none⟩,
  ⟨some 5, .mv (.c (.bool false)), none⟩])
 (.seq (.seq (.reg [⟨some 6, .mv (.c (.int .i64 0)), none⟩])
 (.block 0 []
 (.loop [0, 1, 6]
 (.seq (.seq (.reg [⟨some 7, .mv (.t 6), none⟩,
  ⟨some 8, .mv (.t 0), none⟩,
  ⟨some 9, .len none (.t 8), none⟩,
  ⟨some 10, .bin .lss [] (.t 7) (.t 9), none⟩])
 (.cond (.t 10)
 (.skip)
 (.exit 0)))
 (.seq (.block 1 [0, 1, 6]
 (.seq (.reg [⟨some 13, .mv (.t 0), none⟩,
  ⟨some 14, .mv (.t 6), none⟩,
  ⟨some 15, .ia none 2 (.t 13) (.t 14), none⟩,
  ⟨some 16, .fa 0 (.t 15), none⟩,
  ⟨some 17, .ld none (.t 16), none⟩,
  ⟨some 18, .mv (.t 1), none⟩,
  ⟨some 19, .bin .eql [] (.t 17) (.t 18), none⟩])
 (.cond (.t 19)
 (.seq (.reg [⟨some 20, .mv (.t 0), none⟩,
  ⟨some 21, .mv (.t 6), none⟩,
  ⟨some 22, .ia none 2 (.t 20) (.t 21), none⟩,
  ⟨some 23, .fa 1 (.t 22), none⟩,
  ⟨some 24, .ld none (.t 23), none⟩,
  ⟨some 4, .mv (.t 24), none⟩,
  ⟨some 5, .mv (.c (.bool true)), none⟩])
 (.ret))
 (.skip))))
 (.reg [⟨some 11, .mv (.t 6), none⟩,
  ⟨some 12, .bin .add [] (.t 11) (.c (.int .i64 1)), none⟩,
  ⟨some 6, .mv (.t 12), none⟩]))))))
 (.seq (.reg [⟨some 4, .mv (.c .nils), none⟩,
  ⟨some 5, .mv (.c (.bool false)), none⟩])
 (.ret))),
 [.tmp 4, .tmp 5], true⟩
/-- ephemeris/ephemerisref05.May -/
def M25 : MFunc := ⟨.seq (.reg [⟨some 2, .mv (.c (.bool false)), none⟩])
 (.seq (.seq (.reg [⟨some 3, .mv (.c (.int .i64 0)), none⟩])
 (.block 0 [0]
 (.loop [0, 3]
 (.seq (.seq (.reg [⟨some 4, .mv (.t 3), none⟩,
  ⟨some 5, .mv (.t 0), none⟩,
  ⟨some 6, .len none (.t 5), none⟩,
  ⟨some 7, .bin .lss [] (.t 4) (.t 6), none⟩])
 (.cond (.t 7)
 (.skip)
 (.exit 0)))
 (.seq (.block 1 [0, 3]
 (.seq (.reg [⟨some 10, .mv (.t 0), none⟩,
  ⟨some 11, .mv (.t 3), none⟩,
  ⟨some 12, .ia none 2 (.t 10) (.t 11), none⟩,
  ⟨some 13, .fa 1 (.t 12), none⟩,
  ⟨some 14, .ld none (.t 13), none⟩,
  ⟨some 15, .len none (.t 14), none⟩,
  ⟨some 16, .call 31 [(.t 15)], none⟩,
  ⟨some 17, .un .not (.t 16), none⟩])
 (.cond (.t 17)
 (.seq (.reg [⟨some 2, .mv (.c (.bool false)), none⟩])
 (.ret))
 (.skip))))
 (.reg [⟨some 8, .mv (.t 3), none⟩,
  ⟨some 9, .bin .add [] (.t 8) (.c (.int .i64 1)), none⟩,
  ⟨some 3, .mv (.t 9), none⟩]))))))
 (.seq (.reg [⟨some 18, .mv (.t 0), none⟩,
  ⟨some 19, .len none (.t 18), none⟩,
  ⟨some 20, .bin .leq [] (.t 19) (.c (.int .i64 8)), none⟩,
  ⟨some 2, .mv (.t 20), none⟩])
 (.ret))),
 [.tmp 2], true⟩
/-- slices.IndexFunc[[]ephemeris/api.Ext,ephemeris/api.Ext] -/
def M26 : MFunc := ⟨.seq (.reg [⟨some 4, .mv (.c (.int .i64 0)), none⟩])
 (.seq (.seq (.reg [⟨some 6, .mv (.t 0), none⟩,
  ⟨some 7, .len none (.t 6), none⟩,
  ⟨some 8, .mv (.c (.int .i64 0)), none⟩])
 (.block 0 []
 (.loop [0, 1, 7, 8]
 (.seq (.reg [⟨some 9, .bin .lss [] (.t 8) (.t 7), none⟩])
 (.seq (.cond (.t 9)
 (.skip)
 (.exit 0))
 (.seq (.block 1 [0, 1, 7, 8]
 (.seq (.reg [⟨some 10, .mv (.t 8), none⟩,
  ⟨some 5, .mv (.t 10), none⟩])
 (.seq (.reg [⟨some 11, .mv (.t 1), none⟩,
  ⟨some 12, .mv (.t 0), none⟩,
  ⟨some 13, .mv (.t 5), none⟩,
  ⟨some 14, .ia none 2 (.t 12) (.t 13), none⟩,
  ⟨some 15, .ld (some 2) (.t 14), none⟩,
  ⟨some 16, .calld (.t 11) [(.t 15)], none⟩])
 (.cond (.t 16)
 (.seq (.reg [⟨some 17, .mv (.t 5), none⟩,
  ⟨some 4, .mv (.t 17), none⟩])
 (.ret))
 (.skip)))))
 (.reg [⟨some 18, .bin .add [] (.t 8) (.c (.int .i64 1)), none⟩,
  ⟨some 8, .mv (.t 18), none⟩])))))))
 (.seq (.reg [⟨some 4, .mv (.c (.int .i64 (-1))), none⟩])
 (.ret))),
 [.tmp 4], true⟩
/-- ephemeris/ext.Find_1 -/
def M27 : MFunc := ⟨.seq (.reg [⟨some 2, .bx none 2 (.t 0), none⟩,
  ⟨some 3, .mv (.c (.bool false)), none⟩])
 (.seq (.reg [⟨some 4, .fa 0 (.t 2), none⟩,
  ⟨some 5, .ld none (.t 4), none⟩,
  ⟨some 6, .ld none (.t 1), none⟩,
  ⟨some 7, .bin .eql [] (.t 5) (.t 6), none⟩,
  ⟨some 3, .mv (.t 7), none⟩])
 (.ret)),
 [.tmp 3], true⟩
/-- bytes.Clone -/
def M28 : MFunc := ⟨.seq (.reg [⟨some 2, .mv (.c .nils), none⟩])
 (.seq (.seq (.reg [⟨some 3, .mv (.t 0), none⟩,
  ⟨some 4, .bin .eql [3] (.t 3) (.c .nils), none⟩])
 (.cond (.t 4)
 (.seq (.reg [⟨some 2, .mv (.c .nils), none⟩])
 (.ret))
 (.skip)))
 (.seq (.reg [⟨some 5, .bsl (.ints .u8 [0]) 0 1 [], none⟩,
  ⟨some 6, .mv (.t 0), none⟩,
  ⟨some 7, .app (.ints .u8 [0]) 1 (.t 5) (.t 6), none⟩,
  ⟨some 2, .mv (.t 7), none⟩])
 (.ret))),
 [.tmp 2], true⟩
/-- ephemeris/octet.Take -/
def M29 : MFunc := ⟨.seq (.reg [⟨some 4, .mv (.c .nils), none⟩,
  ⟨some 5, .mv (.c .nils), none⟩,
  ⟨some 6, .mv (.c (.int .i64 0)), none⟩])
 (.seq (.reg [⟨some 11, .mv (.t 0), none⟩,
  ⟨some 12, .call 37 [(.t 11)], none⟩,
  ⟨some 10, .mv (.t 12), none⟩,
  ⟨some 13, .ex 0 (.t 10), none⟩,
  ⟨some 14, .ex 1 (.t 10), none⟩,
  ⟨some 7, .mv (.t 13), none⟩,
  ⟨some 8, .mv (.t 14), none⟩])
 (.seq (.block 0 [0, 1, 7]
 (.seq (.reg [⟨some 16, .mv (.t 8), none⟩,
  ⟨some 17, .bin .neq [] (.t 16) (.c (.int .i64 0)), none⟩,
  ⟨some 15, .mv (.t 17), none⟩])
 (.cond (.t 15)
 (.seq (.reg [⟨some 18, .mv (.t 8), none⟩,
  ⟨some 4, .mv (.c .nils), none⟩,
  ⟨some 5, .mv (.c .nils), none⟩,
  ⟨some 6, .mv (.t 18), none⟩])
 (.ret))
 (.seq (.reg [⟨some 20, .mv (.t 7), none⟩,
  ⟨some 21, .mv (.t 1), none⟩,
  ⟨some 22, .len none (.t 21), none⟩,
  ⟨some 23, .bin .gtr [] (.t 20) (.t 22), none⟩,
  ⟨some 19, .mv (.t 23), none⟩])
 (.cond (.t 19)
 (.seq (.reg [⟨some 4, .mv (.c .nils), none⟩,
  ⟨some 5, .mv (.c .nils), none⟩,
  ⟨some 6, .mv (.c (.int .i64 4)), none⟩])
 (.ret))
 (.skip))))))
 (.seq (.reg [⟨some 9, .al (.vals [.nils]), none⟩])
 (.seq (.reg [⟨some 24, .mv (.t 0), none⟩,
  ⟨some 25, .mv (.t 1), none⟩,
  ⟨some 26, .mf 39 [(.t 9)], none⟩,
  ⟨some 27, .call 38 [(.t 24), (.t 25), (.t 26)], none⟩])
 (.seq (.regd [(0, ⟨some 28, .ld none (.t 9), none⟩),
  (1, ⟨some 29, .mv (.t 1), none⟩),
  (2, ⟨some 30, .mv (.t 7), none⟩),
  (3, ⟨some 31, .slc none 1 (.t 29) (some (.t 30)) none none, none⟩),
  (4, ⟨some 32, .call 41 [(.t 31)], none⟩),
  (5, ⟨some 4, .mv (.t 28), none⟩),
  (6, ⟨some 5, .mv (.t 32), none⟩),
  (7, ⟨some 6, .mv (.c (.int .i64 0)), none⟩)] [(0, 4)])
 (.ret)))))),
 [.tmp 4, .tmp 5, .tmp 6], true⟩
/-- ephemeris/ext.may -/
def M30 : MFunc := ⟨.seq (.reg [⟨some 2, .mv (.c (.bool false)), none⟩])
 (.seq (.reg [⟨some 3, .mv (.t 0), none⟩,
  ⟨some 4, .bin .rem [] (.t 3) (.c (.int .i64 4)), none⟩,
  ⟨some 5, .bin .eql [] (.t 4) (.c (.int .i64 0)), none⟩,
  ⟨some 6, .mv (.t 5), none⟩,
  ⟨some 7, .mv (.t 0), some (6, true)⟩,
  ⟨some 8, .bin .geq [] (.t 7) (.c (.int .i64 12)), some (6, true)⟩,
  ⟨some 9, .pick (.t 6) (.t 8) (.c (.bool false)), none⟩,
  ⟨some 10, .mv (.t 9), none⟩,
  ⟨some 11, .mv (.t 0), some (10, true)⟩,
  ⟨some 12, .bin .leq [] (.t 11) (.c (.int .i64 464)), some (10, true)⟩,
  ⟨some 13, .pick (.t 10) (.t 12) (.c (.bool false)), none⟩,
  ⟨some 2, .mv (.t 13), none⟩])
 (.ret)),
 [.tmp 2], true⟩
/-- ephemeris/ephemerisref05.long -/
def M31 : MFunc := ⟨.seq (.reg [⟨some 2, .mv (.c (.bool false)), none⟩])
 (.seq (.reg [⟨some 3, .mv (.t 0), none⟩,
  ⟨some 4, .bin .geq [] (.t 3) (.c (.int .i64 12)), none⟩,
  ⟨some 5, .mv (.t 4), none⟩,
  ⟨some 6, .mv (.t 0), some (5, true)⟩,
  ⟨some 7, .bin .leq [] (.t 6) (.c (.int .i64 464)), some (5, true)⟩,
  ⟨some 8, .pick (.t 5) (.t 7) (.c (.bool false)), none⟩,
  ⟨some 9, .mv (.t 8), none⟩,
  ⟨some 10, .mv (.t 0), some (9, true)⟩,
  ⟨some 11, .bin .rem [] (.t 10) (.c (.int .i64 4)), some (9, true)⟩,
  ⟨some 12, .bin .eql [] (.t 11) (.c (.int .i64 0)), some (9, true)⟩,
  ⟨some 13, .pick (.t 9) (.t 12) (.c (.bool false)), none⟩,
  ⟨some 2, .mv (.t 13), none⟩])
 (.ret)),
 [.tmp 2], true⟩
/-- slices.EqualFunc[[]ephemeris/api.Ext,[]ephemeris/api.Ext,ephemeris/api.Ext,ephemeris/api.Ext] -/
def M32 : MFunc := ⟨.seq (.reg [⟨some 6, .mv (.c (.bool false)), none⟩])
 (.seq (.seq (.reg [⟨some 10, .mv (.t 0), none⟩,
  ⟨some 11, .len none (.t 10), none⟩,
  ⟨some 12, .mv (.t 1), none⟩,
  ⟨some 13, .len none (.t 12), none⟩,
  ⟨some 14, .bin .neq [] (.t 11) (.t 13), none⟩])
 (.cond (.t 14)
 (.seq (.reg [⟨some 6, .mv (.c (.bool false)), none⟩])
 (.ret))
 (.skip)))
 (.seq (.seq (.reg [⟨some 15, .mv (.t 0), none⟩,
  ⟨some 16, .len none (.t 15), none⟩,
  ⟨some 17, .mv (.c (.int .i64 0)), none⟩])
 (.block 0 []
 (.loop [1, 2, 15, 16, 17]
 (.seq (.reg [⟨some 18, .bin .lss [] (.t 17) (.t 16), none⟩])
 (.seq (.cond (.t 18)
 (.skip)
 (.exit 0))
 (.seq (.block 1 [1, 2, 15, 16, 17]
 (.seq (.reg [⟨some 19, .mv (.t 17), none⟩,
  ⟨some 20, .ia none 2 (.t 15) (.t 17), none⟩,
  ⟨some 21, .ld (some 2) (.t 20), none⟩,
  ⟨some 8, .al (.vals [(.int .u16 0), .nils]), none⟩,
  ⟨some 7, .mv (.t 19), none⟩,
  ⟨none, .st 2 (.t 8) (.t 21), none⟩])
 (.seq (.reg [⟨some 22, .mv (.t 1), none⟩,
  ⟨some 23, .mv (.t 7), none⟩,
  ⟨some 24, .ia none 2 (.t 22) (.t 23), none⟩,
  ⟨some 25, .ld (some 2) (.t 24), none⟩,
  ⟨some 9, .al (.vals [(.int .u16 0), .nils]), none⟩,
  ⟨none, .st 2 (.t 9) (.t 25), none⟩])
 (.seq (.reg [⟨some 26, .mv (.t 2), none⟩,
  ⟨some 27, .ld (some 2) (.t 8), none⟩,
  ⟨some 28, .ld (some 2) (.t 9), none⟩,
  ⟨some 29, .calld (.t 26) [(.t 27), (.t 28)], none⟩,
  ⟨some 30, .un .not (.t 29), none⟩])
 (.cond (.t 30)
 (.seq (.reg [⟨some 6, .mv (.c (.bool false)), none⟩])
 (.ret))
 (.skip))))))
 (.reg [⟨some 31, .bin .add [] (.t 17) (.c (.int .i64 1)), none⟩,
  ⟨some 17, .mv (.t 31), none⟩])))))))
 (.seq (.reg [⟨some 6, .mv (.c (.bool true)), none⟩])
 (.ret)))),
 [.tmp 6], true⟩
/-- ephemeris/ext.Same_1 -/
def M33 : MFunc := ⟨.seq (.reg [⟨some 2, .bx none 2 (.t 0), none⟩,
  ⟨some 3, .bx none 2 (.t 1), none⟩,
  ⟨some 4, .mv (.c (.bool false)), none⟩])
 (.seq (.reg [⟨some 5, .fa 0 (.t 2), none⟩,
  ⟨some 6, .ld none (.t 5), none⟩,
  ⟨some 7, .fa 0 (.t 3), none⟩,
  ⟨some 8, .ld none (.t 7), none⟩,
  ⟨some 9, .bin .eql [] (.t 6) (.t 8), none⟩,
  ⟨some 10, .mv (.t 9), none⟩,
  ⟨some 11, .fa 1 (.t 2), some (10, true)⟩,
  ⟨some 12, .ld none (.t 11), some (10, true)⟩,
  ⟨some 13, .fa 1 (.t 3), some (10, true)⟩,
  ⟨some 14, .ld none (.t 13), some (10, true)⟩,
  ⟨some 15, .call 12 [(.t 12), (.t 14)], some (10, true)⟩,
  ⟨some 16, .pick (.t 10) (.t 15) (.c (.bool false)), none⟩,
  ⟨some 4, .mv (.t 16), none⟩])
 (.ret)),
 [.tmp 4], true⟩
/-- ephemeris/octet.Lay -/
def M34 : MFunc := ⟨.seq (.reg [⟨some 3, .bx none 1 (.t 1), none⟩,
  ⟨some 4, .mv (.c .nils), none⟩,
  ⟨some 5, .mv (.c (.int .i64 0)), none⟩])
 (.seq (.reg [⟨some 10, .mv (.t 0), none⟩,
  ⟨some 11, .call 37 [(.t 10)], none⟩,
  ⟨some 9, .mv (.t 11), none⟩,
  ⟨some 12, .ex 0 (.t 9), none⟩,
  ⟨some 13, .ex 1 (.t 9), none⟩,
  ⟨some 7, .al (.ints .i64 [0]), none⟩,
  ⟨some 6, .mv (.t 12), none⟩,
  ⟨none, .st 1 (.t 7) (.t 13), none⟩])
 (.seq (.seq (.reg [⟨some 14, .ld none (.t 7), none⟩,
  ⟨some 15, .bin .neq [] (.t 14) (.c (.int .i64 0)), none⟩,
  ⟨some 16, .mv (.t 15), none⟩,
  ⟨some 17, .mv (.t 0), some (16, false)⟩,
  ⟨some 18, .len none (.t 17), some (16, false)⟩,
  ⟨some 19, .ld none (.t 3), some (16, false)⟩,
  ⟨some 20, .len none (.t 19), some (16, false)⟩,
  ⟨some 21, .bin .neq [] (.t 18) (.t 20), some (16, false)⟩,
  ⟨some 22, .pick (.t 16) (.c (.bool true)) (.t 21), none⟩])
 (.cond (.t 22)
 (.seq (.reg [⟨some 4, .mv (.c .nils), none⟩,
  ⟨some 5, .mv (.c (.int .i64 1)), none⟩])
 (.ret))
 (.skip)))
 (.seq (.reg [⟨some 23, .mv (.t 6), none⟩,
  ⟨some 24, .mks (.ints .u8 [0]) 1 (.t 23) (.t 23), none⟩,
  ⟨some 8, .mv (.t 24), none⟩])
 (.seq (.reg [⟨some 25, .mv (.t 0), none⟩,
  ⟨some 26, .mv (.t 8), none⟩,
  ⟨some 27, .mf 42 [(.t 3), (.t 7)], none⟩,
  ⟨some 28, .call 38 [(.t 25), (.t 26), (.t 27)], none⟩])
 (.seq (.seq (.reg [⟨some 29, .ld none (.t 7), none⟩,
  ⟨some 30, .bin .neq [] (.t 29) (.c (.int .i64 0)), none⟩])
 (.cond (.t 30)
 (.seq (.regd [(0, ⟨some 31, .ld none (.t 7), none⟩),
  (1, ⟨some 4, .mv (.c .nils), none⟩),
  (2, ⟨some 5, .mv (.t 31), none⟩)] [])
 (.ret))
 (.skip)))
 (.seq (.reg [⟨some 32, .mv (.t 8), none⟩,
  ⟨some 4, .mv (.t 32), none⟩,
  ⟨some 5, .mv (.c (.int .i64 0)), none⟩])
 (.ret))))))),
 [.tmp 4, .tmp 5], true⟩
/-- slices.ContainsFunc[[]ephemeris/api.Ext,ephemeris/api.Ext] -/
def M35 : MFunc := ⟨.seq (.reg [⟨some 4, .mv (.c (.bool false)), none⟩])
 (.seq (.reg [⟨some 5, .mv (.t 0), none⟩,
  ⟨some 6, .mv (.t 1), none⟩,
  ⟨some 7, .call 26 [(.t 5), (.t 6)], none⟩,
  ⟨some 8, .bin .geq [] (.t 7) (.c (.int .i64 0)), none⟩,
  ⟨some 4, .mv (.t 8), none⟩])
 (.ret)),
 [.tmp 4], true⟩
/-- ephemeris/ext.May_1 -/
def M36 : MFunc := ⟨.seq (.reg [⟨some 1, .bx none 2 (.t 0), none⟩,
  ⟨some 2, .mv (.c (.bool false)), none⟩])
 (.seq (.reg [⟨some 3, .fa 1 (.t 1), none⟩,
  ⟨some 4, .ld none (.t 3), none⟩,
  ⟨some 5, .len none (.t 4), none⟩,
  ⟨some 6, .call 30 [(.t 5)], none⟩,
  ⟨some 7, .un .not (.t 6), none⟩,
  ⟨some 2, .mv (.t 7), none⟩])
 (.ret)),
 [.tmp 2], true⟩
/-- ephemeris/octet.Width -/
def M37 : MFunc := ⟨.seq (.reg [⟨some 2, .mv (.c (.int .i64 0)), none⟩,
  ⟨some 3, .mv (.c (.int .i64 0)), none⟩])
 (.seq (.seq (.reg [⟨some 7, .mv (.t 0), none⟩,
  ⟨some 8, .call 45 [(.t 7), (.f 46)], none⟩])
 (.cond (.t 8)
 (.seq (.reg [⟨some 2, .mv (.c (.int .i64 0)), none⟩,
  ⟨some 3, .mv (.c (.int .i64 1)), none⟩])
 (.ret))
 (.skip)))
 (.seq (.reg [⟨some 4, .mv (.c (.int .i64 0)), none⟩])
 (.seq (.seq (.reg [⟨some 9, .mv (.t 0), none⟩,
  ⟨some 10, .len none (.t 9), none⟩,
  ⟨some 11, .mv (.c (.int .i64 0)), none⟩])
 (.block 0 [4]
 (.loop [4, 9, 10, 11]
 (.seq (.reg [⟨some 12, .bin .lss [] (.t 11) (.t 10), none⟩])
 (.seq (.cond (.t 12)
 (.skip)
 (.exit 0))
 (.seq (.block 1 [4, 9, 10, 11]
 (.seq (.reg [⟨some 13, .ia none 1 (.t 9) (.t 11), none⟩,
  ⟨some 14, .ld none (.t 13), none⟩,
  ⟨some 6, .mv (.t 14), none⟩])
 (.reg [⟨some 15, .mv (.t 4), none⟩,
  ⟨some 16, .mv (.t 6), none⟩,
  ⟨some 17, .bin .add [] (.t 15) (.t 16), none⟩,
  ⟨some 4, .mv (.t 17), none⟩])))
 (.reg [⟨some 18, .bin .add [] (.t 11) (.c (.int .i64 1)), none⟩,
  ⟨some 11, .mv (.t 18), none⟩])))))))
 (.seq (.reg [⟨some 19, .mv (.t 4), none⟩,
  ⟨some 2, .mv (.t 19), none⟩,
  ⟨some 3, .mv (.c (.int .i64 0)), none⟩])
 (.ret))))),
 [.tmp 2, .tmp 3], true⟩
/-- ephemeris/octet.cut -/
def M38 : MFunc := ⟨.seq (.reg [⟨some 8, .mv (.t 0), none⟩,
  ⟨some 9, .len none (.t 8), none⟩,
  ⟨some 10, .mv (.c (.int .i64 0)), none⟩])
 (.block 0 []
 (.loop [1, 2, 8, 9, 10]
 (.seq (.reg [⟨some 11, .bin .lss [] (.t 10) (.t 9), none⟩])
 (.seq (.cond (.t 11)
 (.skip)
 (.exit 0))
 (.seq (.block 1 [1, 2, 8, 9, 10]
 (.seq (.reg [⟨some 12, .mv (.t 10), none⟩,
  ⟨some 13, .ia none 1 (.t 8) (.t 10), none⟩,
  ⟨some 14, .ld none (.t 13), none⟩,
  ⟨some 6, .mv (.t 12), none⟩,
  ⟨some 7, .mv (.t 14), none⟩])
 (.seq (.seq (.reg [⟨some 15, .mv (.t 2), none⟩,
  ⟨some 16, .mv (.t 6), none⟩,
  ⟨some 17, .mv (.t 1), none⟩,
  ⟨some 18, .mv (.t 7), none⟩,
  ⟨some 19, .mv (.t 7), none⟩,
  ⟨some 20, .slc none 1 (.t 17) none (some (.t 18)) (some (.t 19)), none⟩,
  ⟨some 21, .calld (.t 15) [(.t 16), (.t 20)], none⟩,
  ⟨some 22, .un .not (.t 21), none⟩])
 (.cond (.t 22)
 (.ret)
 (.skip)))
 (.reg [⟨some 23, .mv (.t 1), none⟩,
  ⟨some 24, .mv (.t 7), none⟩,
  ⟨some 25, .slc none 1 (.t 23) (some (.t 24)) none none, none⟩,
  ⟨some 1, .mv (.t 25), none⟩]))))
 (.reg [⟨some 26, .bin .add [] (.t 10) (.c (.int .i64 1)), none⟩,
  ⟨some 10, .mv (.t 26), none⟩])))))),
 [], true⟩
/-- ephemeris/octet.Take_1 -/
def M39 : MFunc := ⟨.seq (.reg [⟨some 5, .mv (.c (.bool false)), none⟩])
 (.seq (.regd [(0, ⟨some 6, .ld none (.t 2), none⟩),
  (1, ⟨some 7, .mv (.t 1), none⟩),
  (2, ⟨some 8, .call 40 [(.t 7)], none⟩),
  (3, ⟨some 9, .bsl (.ints .u64 [0]) 1 1 [(0, 1, (.t 8))], none⟩),
  (4, ⟨some 10, .app (.ints .u64 [0]) 8 (.t 6) (.t 9), none⟩),
  (5, ⟨none, .st 1 (.t 2) (.t 10), none⟩)] [(0, 2)])
 (.seq (.reg [⟨some 5, .mv (.c (.bool true)), none⟩])
 (.ret))),
 [.tmp 5], true⟩
/-- slices.Clone[[]byte,byte] -/
def M41 : MFunc := ⟨.seq (.reg [⟨some 2, .mv (.c .nils), none⟩])
 (.seq (.seq (.reg [⟨some 3, .mv (.t 0), none⟩,
  ⟨some 4, .bin .eql [3] (.t 3) (.c .nils), none⟩])
 (.cond (.t 4)
 (.seq (.reg [⟨some 2, .mv (.c .nils), none⟩])
 (.ret))
 (.skip)))
 (.seq (.reg [⟨some 5, .bsl (.ints .u8 [0]) 0 1 [], none⟩,
  ⟨some 6, .mv (.t 0), none⟩,
  ⟨some 7, .app (.ints .u8 [0]) 1 (.t 5) (.t 6), none⟩,
  ⟨some 2, .mv (.t 7), none⟩])
 (.ret))),
 [.tmp 2], true⟩
/-- ephemeris/octet.Lay_1 -/
def M42 : MFunc := ⟨.seq (.reg [⟨some 6, .mv (.c (.bool false)), none⟩])
 (.seq (.seq (.reg [⟨some 7, .ld none (.t 2), none⟩,
  ⟨some 8, .mv (.t 0), none⟩,
  ⟨some 9, .ia none 1 (.t 7) (.t 8), none⟩,
  ⟨some 10, .ld none (.t 9), none⟩,
  ⟨some 11, .mv (.t 1), none⟩,
  ⟨some 12, .len none (.t 11), none⟩,
  ⟨some 13, .call 43 [(.t 10), (.t 12)], none⟩,
  ⟨some 14, .un .not (.t 13), none⟩])
 (.cond (.t 14)
 (.seq (.reg [⟨none, .st 1 (.t 3) (.c (.int .i64 20)), none⟩])
 (.seq (.reg [⟨some 6, .mv (.c (.bool false)), none⟩])
 (.ret)))
 (.skip)))
 (.seq (.reg [⟨some 15, .mv (.t 1), none⟩,
  ⟨some 16, .ld none (.t 2), none⟩,
  ⟨some 17, .mv (.t 0), none⟩,
  ⟨some 18, .ia none 1 (.t 16) (.t 17), none⟩,
  ⟨some 19, .ld none (.t 18), none⟩,
  ⟨some 20, .call 44 [(.t 15), (.t 19)], none⟩])
 (.seq (.reg [⟨some 6, .mv (.c (.bool true)), none⟩])
 (.ret)))),
 [.tmp 6], true⟩
/-- ephemeris/octet.fits -/
def M43 : MFunc := ⟨.seq (.reg [⟨some 4, .mv (.c (.bool false)), none⟩])
 (.seq (.reg [⟨some 5, .mv (.t 1), none⟩,
  ⟨some 6, .bin .eql [] (.t 5) (.c (.int .i64 8)), none⟩,
  ⟨some 7, .mv (.t 6), none⟩,
  ⟨some 8, .mv (.t 0), some (7, false)⟩,
  ⟨some 9, .mv (.t 1), some (7, false)⟩,
  ⟨some 10, .bin .mul [] (.c (.int .i64 8)) (.t 9), some (7, false)⟩,
  ⟨some 11, .bin .shr [] (.t 8) (.t 10), some (7, false)⟩,
  ⟨some 12, .bin .eql [] (.t 11) (.c (.int .u64 0)), some (7, false)⟩,
  ⟨some 13, .pick (.t 7) (.c (.bool true)) (.t 12), none⟩,
  ⟨some 4, .mv (.t 13), none⟩])
 (.ret)),
 [.tmp 4], true⟩
/-- slices.ContainsFunc[[]int,int] -/
def M45 : MFunc := ⟨.seq (.reg [⟨some 4, .mv (.c (.bool false)), none⟩])
 (.seq (.reg [⟨some 5, .mv (.t 0), none⟩,
  ⟨some 6, .mv (.t 1), none⟩,
  ⟨some 7, .call 49 [(.t 5), (.t 6)], none⟩,
  ⟨some 8, .bin .geq [] (.t 7) (.c (.int .i64 0)), none⟩,
  ⟨some 4, .mv (.t 8), none⟩])
 (.ret)),
 [.tmp 4], true⟩
/-- ephemeris/octet.Width_1 -/
def M46 : MFunc := ⟨.seq (.reg [⟨some 2, .mv (.c (.bool false)), none⟩])
 (.seq (.reg [⟨some 3, .mv (.t 0), none⟩,
  ⟨some 4, .call 47 [(.t 3)], none⟩,
  ⟨some 5, .un .not (.t 4), none⟩,
  ⟨some 2, .mv (.t 5), none⟩])
 (.ret)),
 [.tmp 2], true⟩
/-- ephemeris/octet.sized -/
def M47 : MFunc := ⟨.seq (.reg [⟨some 2, .mv (.c (.bool false)), none⟩])
 (.seq (.reg [⟨some 3, .mv (.t 0), none⟩,
  ⟨some 4, .bin .gtr [] (.t 3) (.c (.int .i64 0)), none⟩,
  ⟨some 5, .mv (.t 4), none⟩,
  ⟨some 6, .mv (.t 0), some (5, true)⟩,
  ⟨some 7, .bin .leq [] (.t 6) (.c (.int .i64 8)), some (5, true)⟩,
  ⟨some 8, .pick (.t 5) (.t 7) (.c (.bool false)), none⟩,
  ⟨some 2, .mv (.t 8), none⟩])
 (.ret)),
 [.tmp 2], true⟩
/-- ephemeris/octet.digits -/
def M48 : MFunc := ⟨.seq (.reg [⟨some 1, .bx (some .i64) 1 (.t 0), none⟩,
  ⟨some 2, .mv (.c .nilf), none⟩])
 (.seq (.reg [⟨some 3, .mf 50 [(.t 1)], none⟩,
  ⟨some 2, .mv (.t 3), none⟩])
 (.ret)),
 [.tmp 2], true⟩
/-- slices.IndexFunc[[]int,int] -/
def M49 : MFunc := ⟨.seq (.reg [⟨some 4, .mv (.c (.int .i64 0)), none⟩])
 (.seq (.seq (.reg [⟨some 6, .mv (.t 0), none⟩,
  ⟨some 7, .len none (.t 6), none⟩,
  ⟨some 8, .mv (.c (.int .i64 0)), none⟩])
 (.block 0 []
 (.loop [0, 1, 7, 8]
 (.seq (.reg [⟨some 9, .bin .lss [] (.t 8) (.t 7), none⟩])
 (.seq (.cond (.t 9)
 (.skip)
 (.exit 0))
 (.seq (.block 1 [0, 1, 7, 8]
 (.seq (.reg [⟨some 10, .mv (.t 8), none⟩,
  ⟨some 5, .mv (.t 10), none⟩])
 (.seq (.reg [⟨some 11, .mv (.t 1), none⟩,
  ⟨some 12, .mv (.t 0), none⟩,
  ⟨some 13, .mv (.t 5), none⟩,
  ⟨some 14, .ia none 1 (.t 12) (.t 13), none⟩,
  ⟨some 15, .ld none (.t 14), none⟩,
  ⟨some 16, .calld (.t 11) [(.t 15)], none⟩])
 (.cond (.t 16)
 (.seq (.reg [⟨some 17, .mv (.t 5), none⟩,
  ⟨some 4, .mv (.t 17), none⟩])
 (.ret))
 (.skip)))))
 (.reg [⟨some 18, .bin .add [] (.t 8) (.c (.int .i64 1)), none⟩,
  ⟨some 8, .mv (.t 18), none⟩])))))))
 (.seq (.reg [⟨some 4, .mv (.c (.int .i64 (-1))), none⟩])
 (.ret))),
 [.tmp 4], true⟩
/-- ephemeris/octet.digits_1 -/
def M50 : MFunc := ⟨.seq (.reg [⟨some 3, .mv (.c (.int .i64 0)), none⟩])
 (.block 0 []
 (.loop [0, 1, 3]
 (.seq (.seq (.reg [⟨some 4, .mv (.t 3), none⟩,
  ⟨some 5, .ld none (.t 1), none⟩,
  ⟨some 6, .bin .lss [] (.t 4) (.t 5), none⟩,
  ⟨some 7, .mv (.t 6), none⟩,
  ⟨some 8, .mv (.t 0), some (7, true)⟩,
  ⟨some 9, .mv (.t 3), some (7, true)⟩,
  ⟨some 10, .ld none (.t 1), some (7, true)⟩,
  ⟨some 11, .bin .sub [] (.t 10) (.c (.int .i64 1)), some (7, true)⟩,
  ⟨some 12, .mv (.t 3), some (7, true)⟩,
  ⟨some 13, .bin .sub [] (.t 11) (.t 12), some (7, true)⟩,
  ⟨some 14, .bin .mul [] (.c (.int .i64 8)) (.t 13), some (7, true)⟩,
  ⟨some 15, .calld (.t 8) [(.t 9), (.t 14)], some (7, true)⟩,
  ⟨some 16, .pick (.t 7) (.t 15) (.c (.bool false)), none⟩])
 (.cond (.t 16)
 (.skip)
 (.exit 0)))
 (.block 1 [0, 1, 3]
 (.reg [⟨some 17, .mv (.t 3), none⟩,
  ⟨some 18, .bin .add [] (.t 17) (.c (.int .i64 1)), none⟩,
  ⟨some 3, .mv (.t 18), none⟩]))))),
 [], true⟩
def MPL : List (Nat × MFunc) := [(2, M2), (3, M3), (4, M4), (5, M5), (6, M6), (7, M7), (8, M8), (9, M9), (10, M10), (11, M11), (12, M12), (13, M13), (14, M14), (15, M15), (16, M16), (17, M17), (18, M18), (19, M19), (20, M20), (21, M21), (22, M22), (23, M23), (24, M24), (25, M25), (26, M26), (27, M27), (28, M28), (29, M29), (30, M30), (31, M31), (32, M32), (33, M33), (34, M34), (35, M35), (36, M36), (37, M37), (38, M38), (39, M39), (41, M41), (42, M42), (43, M43), (45, M45), (46, M46), (47, M47), (48, M48), (49, M49), (50, M50)]
def MP (f : Nat) : Option MFunc := MPL.lookup f
def GL : List Nat := []
noncomputable def X : Ctx := ⟨Go.Proofs.Try.prog, 0, fun i => GL.getD i 0⟩
end Go.Proofs.YtpmibaeajmfdpaaW.AI.A
