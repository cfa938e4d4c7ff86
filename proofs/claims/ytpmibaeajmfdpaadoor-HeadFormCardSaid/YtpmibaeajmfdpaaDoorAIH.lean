import Derived.Test.YtpmibaeajmfdpaaDoorAISem17
import Derived.Test.YtpmibaeajmfdpaaDoorProg
namespace Go.Proofs.YtpmibaeajmfdpaaDoorW.AI.H
open Go Go.Proofs.YtpmibaeajmfdpaaDoorW.AI
/-- gosem.cut.init -/
def M2 : MFunc := ⟨.reg [⟨some 0, .call 1 [], none⟩],
 [], true⟩
/-- ephemeris/ephemerislaw04.HeadPuts -/
def M3 : MFunc := ⟨.seq (.reg [⟨some 2, .bx none 17 (.t 0), none⟩,
  ⟨some 3, .bx none 17 (.t 1), none⟩,
  ⟨some 4, .mv (.c (.bool false)), none⟩])
 (.seq (.reg [⟨some 10, .ld (some 17) (.t 2), none⟩,
  ⟨some 11, .call 8 [(.t 10)], none⟩,
  ⟨some 9, .mv (.t 11), none⟩,
  ⟨some 12, .ex 0 (.t 9), none⟩,
  ⟨some 13, .ex 1 (.t 9), none⟩,
  ⟨some 5, .mv (.t 12), none⟩,
  ⟨some 6, .mv (.t 13), none⟩])
 (.seq (.reg [⟨some 15, .ld (some 17) (.t 2), none⟩,
  ⟨some 16, .call 9 [(.t 15)], none⟩,
  ⟨some 14, .mv (.t 16), none⟩,
  ⟨some 17, .ex 0 (.t 14), none⟩,
  ⟨some 18, .ex 1 (.t 14), none⟩,
  ⟨some 7, .mv (.t 17), none⟩,
  ⟨some 8, .mv (.t 18), none⟩])
 (.seq (.regd [(0, ⟨some 19, .mv (.t 5), none⟩),
  (1, ⟨some 20, .cstr (.t 19), none⟩),
  (2, ⟨some 21, .mv (.t 7), none⟩),
  (3, ⟨some 22, .cstr (.t 21), none⟩),
  (4, ⟨some 23, .bin .eql [] (.t 20) (.t 22), none⟩),
  (5, ⟨some 24, .mv (.t 23), none⟩),
  (6, ⟨some 25, .mv (.t 6), some (24, true)⟩),
  (7, ⟨some 26, .mv (.t 8), some (24, true)⟩),
  (8, ⟨some 27, .bin .eql [] (.t 25) (.t 26), some (24, true)⟩),
  (9, ⟨some 28, .pick (.t 24) (.t 27) (.c (.bool false)), none⟩),
  (10, ⟨some 29, .mv (.t 28), none⟩),
  (11, ⟨some 30, .ld (some 17) (.t 2), some (29, true)⟩),
  (12, ⟨some 31, .call 10 [(.t 30)], some (29, true)⟩),
  (13, ⟨some 32, .ld (some 17) (.t 2), some (29, true)⟩),
  (14, ⟨some 33, .call 11 [(.t 32)], some (29, true)⟩),
  (15, ⟨some 34, .bin .eql [1] (.t 31) (.t 33), some (29, true)⟩),
  (16, ⟨some 35, .pick (.t 29) (.t 34) (.c (.bool false)), none⟩),
  (17, ⟨some 36, .mv (.t 35), none⟩),
  (18, ⟨some 37, .ld (some 17) (.t 2), some (36, true)⟩),
  (19, ⟨some 38, .ld (some 17) (.t 3), some (36, true)⟩),
  (20, ⟨some 39, .call 12 [(.t 37), (.t 38)], some (36, true)⟩),
  (21, ⟨some 40, .ld (some 17) (.t 2), some (36, true)⟩),
  (22, ⟨some 41, .ld (some 17) (.t 3), some (36, true)⟩),
  (23, ⟨some 42, .call 13 [(.t 40), (.t 41)], some (36, true)⟩),
  (24, ⟨some 43, .bin .eql [1] (.t 39) (.t 42), some (36, true)⟩),
  (25, ⟨some 44, .pick (.t 36) (.t 43) (.c (.bool false)), none⟩),
  (26, ⟨some 45, .mv (.t 44), none⟩),
  (27, ⟨some 46, .ld (some 17) (.t 2), some (45, true)⟩),
  (28, ⟨some 47, .ld (some 17) (.t 2), some (45, true)⟩),
  (29, ⟨some 48, .call 12 [(.t 46), (.t 47)], some (45, true)⟩),
  (30, ⟨some 49, .pick (.t 45) (.t 48) (.c (.bool false)), none⟩),
  (31, ⟨some 50, .mv (.t 49), none⟩),
  (32, ⟨some 51, .call 14 [], some (50, true)⟩),
  (33, ⟨some 52, .pick (.t 50) (.t 51) (.c (.bool false)), none⟩),
  (34, ⟨some 4, .mv (.t 52), none⟩)] [(13, 12), (21, 20), (22, 20)])
 (.ret)))),
 [.tmp 4], true⟩
/-- ephemeris/ephemerislaw04.HeadParses -/
def M4 : MFunc := ⟨.seq (.reg [⟨some 2, .mv (.c (.bool false)), none⟩])
 (.seq (.reg [⟨some 11, .mv (.t 0), none⟩,
  ⟨some 12, .mv (.t 0), none⟩,
  ⟨some 13, .len none (.t 12), none⟩,
  ⟨some 14, .mnx false [(.t 13), (.c (.int .i64 200))], none⟩,
  ⟨some 15, .slc none 1 (.t 11) none (some (.t 14)) none, none⟩,
  ⟨some 0, .mv (.t 15), none⟩])
 (.seq (.reg [⟨some 16, .mv (.t 0), none⟩,
  ⟨some 17, .app (.ints .u8 [0]) 1 (.c .nils) (.t 16), none⟩,
  ⟨some 3, .mv (.t 17), none⟩])
 (.seq (.reg [⟨some 19, .mv (.t 3), none⟩,
  ⟨some 20, .call 15 [(.t 19)], none⟩,
  ⟨some 18, .mv (.t 20), none⟩,
  ⟨some 21, .ex 0 (.t 18), none⟩,
  ⟨some 22, .ex 1 (.t 18), none⟩,
  ⟨some 23, .ex 2 (.t 18), none⟩,
  ⟨some 4, .al (.vals [(.int .u8 0), (.int .u8 0), (.int .u8 0), (.int .u8 0), (.int .i8 0), (.int .i8 0), (.int .u32 0), (.int .u32 0), (.int .u32 0), (.int .u64 0), (.int .u64 0), (.int .u64 0), (.int .u64 0), .nils, (.bool false), (.int .u32 0), (.int .u64 0)]), none⟩,
  ⟨none, .st 17 (.t 4) (.t 21), none⟩,
  ⟨some 5, .mv (.t 22), none⟩,
  ⟨some 6, .mv (.t 23), none⟩])
 (.seq (.reg [⟨some 25, .mv (.t 0), none⟩,
  ⟨some 26, .call 16 [(.t 25)], none⟩,
  ⟨some 24, .mv (.t 26), none⟩,
  ⟨some 27, .ex 0 (.t 24), none⟩,
  ⟨some 28, .ex 1 (.t 24), none⟩,
  ⟨some 29, .ex 2 (.t 24), none⟩,
  ⟨some 7, .al (.vals [(.int .u8 0), (.int .u8 0), (.int .u8 0), (.int .u8 0), (.int .i8 0), (.int .i8 0), (.int .u32 0), (.int .u32 0), (.int .u32 0), (.int .u64 0), (.int .u64 0), (.int .u64 0), (.int .u64 0), .nils, (.bool false), (.int .u32 0), (.int .u64 0)]), none⟩,
  ⟨none, .st 17 (.t 7) (.t 27), none⟩,
  ⟨some 8, .mv (.t 28), none⟩,
  ⟨some 9, .mv (.t 29), none⟩])
 (.seq (.seq (.reg [⟨some 10, .mv (.c (.int .i64 0)), none⟩])
 (.block 0 [0, 3, 4, 5, 6, 7, 8, 9]
 (.loop [0, 3, 4, 5, 6, 7, 8, 9, 10]
 (.seq (.seq (.reg [⟨some 30, .mv (.t 10), none⟩,
  ⟨some 31, .mv (.t 5), none⟩,
  ⟨some 32, .len none (.t 31), none⟩,
  ⟨some 33, .bin .lss [] (.t 30) (.t 32), none⟩])
 (.cond (.t 33)
 (.skip)
 (.exit 0)))
 (.seq (.block 1 [0, 3, 4, 5, 6, 7, 8, 9, 10]
 (.seq (.seq (.regd [(0, ⟨some 36, .mv (.t 10), none⟩),
  (1, ⟨some 37, .mv (.t 8), none⟩),
  (2, ⟨some 38, .len none (.t 37), none⟩),
  (3, ⟨some 39, .bin .geq [] (.t 36) (.t 38), none⟩),
  (4, ⟨some 40, .mv (.t 39), none⟩),
  (5, ⟨some 41, .mv (.t 5), some (40, false)⟩),
  (6, ⟨some 42, .mv (.t 10), some (40, false)⟩),
  (7, ⟨some 43, .ia none 1 (.t 41) (.t 42), some (40, false)⟩),
  (8, ⟨some 44, .ld none (.t 43), some (40, false)⟩),
  (9, ⟨some 45, .mv (.t 8), some (40, false)⟩),
  (10, ⟨some 46, .mv (.t 10), some (40, false)⟩),
  (11, ⟨some 47, .ia none 1 (.t 45) (.t 46), some (40, false)⟩),
  (12, ⟨some 48, .ld none (.t 47), some (40, false)⟩),
  (13, ⟨some 49, .bin .neq [] (.t 44) (.t 48), some (40, false)⟩),
  (14, ⟨some 50, .pick (.t 40) (.c (.bool true)) (.t 49), none⟩)] [])
 (.cond (.t 50)
 (.seq (.reg [⟨some 2, .mv (.c (.bool false)), none⟩])
 (.ret))
 (.skip)))
 (.reg [⟨some 51, .mv (.t 5), none⟩,
  ⟨some 52, .mv (.t 10), none⟩,
  ⟨some 53, .ia none 1 (.t 51) (.t 52), none⟩,
  ⟨some 54, .ld none (.t 53), none⟩,
  ⟨some 55, .bin .xor [] (.t 54) (.c (.int .u8 255)), none⟩,
  ⟨some 56, .ia none 1 (.t 51) (.t 52), none⟩,
  ⟨none, .st 1 (.t 56) (.t 55), none⟩])))
 (.reg [⟨some 34, .mv (.t 10), none⟩,
  ⟨some 35, .bin .add [] (.t 34) (.c (.int .i64 1)), none⟩,
  ⟨some 10, .mv (.t 35), none⟩]))))))
 (.seq (.reg [⟨some 57, .mv (.t 6), none⟩,
  ⟨some 58, .mv (.t 9), none⟩,
  ⟨some 59, .bin .eql [] (.t 57) (.t 58), none⟩,
  ⟨some 60, .mv (.t 59), none⟩,
  ⟨some 61, .mv (.t 5), some (60, true)⟩,
  ⟨some 62, .len none (.t 61), some (60, true)⟩,
  ⟨some 63, .mv (.t 8), some (60, true)⟩,
  ⟨some 64, .len none (.t 63), some (60, true)⟩,
  ⟨some 65, .bin .eql [] (.t 62) (.t 64), some (60, true)⟩,
  ⟨some 66, .pick (.t 60) (.t 65) (.c (.bool false)), none⟩,
  ⟨some 67, .mv (.t 66), none⟩,
  ⟨some 68, .ld (some 17) (.t 4), some (67, true)⟩,
  ⟨some 69, .ld (some 17) (.t 7), some (67, true)⟩,
  ⟨some 70, .call 13 [(.t 68), (.t 69)], some (67, true)⟩,
  ⟨some 71, .pick (.t 67) (.t 70) (.c (.bool false)), none⟩,
  ⟨some 72, .mv (.t 71), none⟩,
  ⟨some 73, .fa 13 (.t 4), some (72, true)⟩,
  ⟨some 74, .ld none (.t 73), some (72, true)⟩,
  ⟨some 75, .len none (.t 74), some (72, true)⟩,
  ⟨some 76, .bin .eql [] (.t 75) (.c (.int .i64 0)), some (72, true)⟩,
  ⟨some 77, .pick (.t 72) (.t 76) (.c (.bool false)), none⟩,
  ⟨some 78, .mv (.t 77), none⟩,
  ⟨some 79, .fa 14 (.t 4), some (78, true)⟩,
  ⟨some 80, .ld none (.t 79), some (78, true)⟩,
  ⟨some 81, .un .not (.t 80), some (78, true)⟩,
  ⟨some 82, .pick (.t 78) (.t 81) (.c (.bool false)), none⟩,
  ⟨some 83, .mv (.t 82), none⟩,
  ⟨some 84, .fa 15 (.t 4), some (83, true)⟩,
  ⟨some 85, .ld none (.t 84), some (83, true)⟩,
  ⟨some 86, .bin .eql [] (.t 85) (.c (.int .u32 0)), some (83, true)⟩,
  ⟨some 87, .pick (.t 83) (.t 86) (.c (.bool false)), none⟩,
  ⟨some 88, .mv (.t 87), none⟩,
  ⟨some 89, .fa 16 (.t 4), some (88, true)⟩,
  ⟨some 90, .ld none (.t 89), some (88, true)⟩,
  ⟨some 91, .bin .eql [] (.t 90) (.c (.int .u64 0)), some (88, true)⟩,
  ⟨some 92, .pick (.t 88) (.t 91) (.c (.bool false)), none⟩,
  ⟨some 93, .mv (.t 92), none⟩,
  ⟨some 94, .mv (.t 3), some (93, true)⟩,
  ⟨some 95, .cstr (.t 94), some (93, true)⟩,
  ⟨some 96, .mv (.t 0), some (93, true)⟩,
  ⟨some 97, .cstr (.t 96), some (93, true)⟩,
  ⟨some 98, .bin .eql [] (.t 95) (.t 97), some (93, true)⟩,
  ⟨some 99, .pick (.t 93) (.t 98) (.c (.bool false)), none⟩,
  ⟨some 100, .mv (.t 99), none⟩,
  ⟨some 101, .call 14 [], some (100, true)⟩,
  ⟨some 102, .pick (.t 100) (.t 101) (.c (.bool false)), none⟩,
  ⟨some 2, .mv (.t 102), none⟩])
 (.ret))))))),
 [.tmp 2], true⟩
/-- ephemeris/ephemerislaw04.HeadForm -/
def M5 : MFunc := ⟨.seq (.reg [⟨some 3, .bx none 17 (.t 0), none⟩,
  ⟨some 6, .mv (.c (.bool false)), none⟩])
 (.seq (.regd [(0, ⟨some 18, .mv (.t 1), none⟩),
  (1, ⟨some 19, .mv (.t 1), none⟩),
  (2, ⟨some 20, .len none (.t 19), none⟩),
  (3, ⟨some 21, .mnx false [(.t 20), (.c (.int .i64 100))], none⟩),
  (4, ⟨some 22, .slc none 1 (.t 18) none (some (.t 21)) none, none⟩),
  (5, ⟨some 23, .mv (.t 2), none⟩),
  (6, ⟨some 24, .mv (.t 2), none⟩),
  (7, ⟨some 25, .len none (.t 24), none⟩),
  (8, ⟨some 26, .mnx false [(.t 25), (.c (.int .i64 100))], none⟩),
  (9, ⟨some 27, .slc none 1 (.t 23) none (some (.t 26)) none, none⟩),
  (10, ⟨some 1, .mv (.t 22), none⟩),
  (11, ⟨some 2, .mv (.t 27), none⟩)] [])
 (.seq (.reg [⟨some 29, .ld (some 17) (.t 3), none⟩,
  ⟨some 30, .call 8 [(.t 29)], none⟩,
  ⟨some 28, .mv (.t 30), none⟩,
  ⟨some 31, .ex 0 (.t 28), none⟩,
  ⟨some 32, .ex 1 (.t 28), none⟩,
  ⟨some 7, .mv (.t 31), none⟩,
  ⟨some 8, .mv (.t 32), none⟩])
 (.seq (.seq (.reg [⟨some 33, .mv (.t 8), none⟩,
  ⟨some 34, .bin .eql [] (.t 33) (.c (.int .i64 0)), none⟩,
  ⟨some 35, .ld (some 17) (.t 3), none⟩,
  ⟨some 36, .call 10 [(.t 35)], none⟩,
  ⟨some 37, .bin .neq [1] (.t 34) (.t 36), none⟩,
  ⟨some 38, .mv (.t 37), none⟩,
  ⟨some 39, .mv (.t 8), some (38, false)⟩,
  ⟨some 40, .bin .neq [] (.t 39) (.c (.int .i64 0)), some (38, false)⟩,
  ⟨some 41, .mv (.t 40), some (38, false)⟩,
  ⟨some 42, .mv (.t 8), some (41, true)⟩,
  ⟨some 43, .bin .neq [] (.t 42) (.c (.int .i64 1)), some (41, true)⟩,
  ⟨some 44, .mv (.t 43), some (41, true)⟩,
  ⟨some 45, .mv (.t 7), some (44, false)⟩,
  ⟨some 46, .len none (.t 45), some (44, false)⟩,
  ⟨some 47, .bin .neq [] (.t 46) (.c (.int .i64 0)), some (44, false)⟩,
  ⟨some 48, .pick (.t 44) (.c (.bool true)) (.t 47), some (41, true)⟩,
  ⟨some 49, .pick (.t 41) (.t 48) (.c (.bool false)), some (38, false)⟩,
  ⟨some 50, .pick (.t 38) (.c (.bool true)) (.t 49), none⟩])
 (.cond (.t 50)
 (.seq (.reg [⟨some 6, .mv (.c (.bool false)), none⟩])
 (.ret))
 (.skip)))
 (.seq (.seq (.reg [⟨some 51, .mv (.t 8), none⟩,
  ⟨some 52, .bin .eql [] (.t 51) (.c (.int .i64 0)), none⟩])
 (.cond (.t 52)
 (.seq (.reg [⟨some 54, .mv (.t 7), none⟩,
  ⟨some 55, .mv (.t 1), none⟩,
  ⟨some 56, .app (.ints .u8 [0]) 1 (.t 54) (.t 55), none⟩,
  ⟨some 57, .call 15 [(.t 56)], none⟩,
  ⟨some 53, .mv (.t 57), none⟩,
  ⟨some 58, .ex 0 (.t 53), none⟩,
  ⟨some 59, .ex 1 (.t 53), none⟩,
  ⟨some 60, .ex 2 (.t 53), none⟩,
  ⟨some 9, .al (.vals [(.int .u8 0), (.int .u8 0), (.int .u8 0), (.int .u8 0), (.int .i8 0), (.int .i8 0), (.int .u32 0), (.int .u32 0), (.int .u32 0), (.int .u64 0), (.int .u64 0), (.int .u64 0), (.int .u64 0), .nils, (.bool false), (.int .u32 0), (.int .u64 0)]), none⟩,
  ⟨none, .st 17 (.t 9) (.t 58), none⟩,
  ⟨some 10, .mv (.t 59), none⟩,
  ⟨some 11, .mv (.t 60), none⟩])
 (.seq (.reg [⟨some 61, .mv (.t 7), none⟩,
  ⟨some 62, .len none (.t 61), none⟩,
  ⟨some 63, .bin .neq [] (.t 62) (.c (.int .i64 48)), none⟩,
  ⟨some 64, .mv (.t 63), none⟩,
  ⟨some 65, .mv (.t 11), some (64, false)⟩,
  ⟨some 66, .bin .neq [] (.t 65) (.c (.int .i64 0)), some (64, false)⟩,
  ⟨some 67, .pick (.t 64) (.c (.bool true)) (.t 66), none⟩,
  ⟨some 68, .mv (.t 67), none⟩,
  ⟨some 69, .ld (some 17) (.t 3), some (68, false)⟩,
  ⟨some 70, .ld (some 17) (.t 9), some (68, false)⟩,
  ⟨some 71, .call 12 [(.t 69), (.t 70)], some (68, false)⟩,
  ⟨some 72, .un .not (.t 71), some (68, false)⟩,
  ⟨some 73, .pick (.t 68) (.c (.bool true)) (.t 72), none⟩,
  ⟨some 74, .mv (.t 73), none⟩,
  ⟨some 75, .mv (.t 10), some (74, false)⟩,
  ⟨some 76, .cstr (.t 75), some (74, false)⟩,
  ⟨some 77, .mv (.t 1), some (74, false)⟩,
  ⟨some 78, .cstr (.t 77), some (74, false)⟩,
  ⟨some 79, .bin .neq [] (.t 76) (.t 78), some (74, false)⟩,
  ⟨some 80, .pick (.t 74) (.c (.bool true)) (.t 79), none⟩])
 (.cond (.t 80)
 (.seq (.reg [⟨some 6, .mv (.c (.bool false)), none⟩])
 (.ret))
 (.skip))))
 (.skip)))
 (.seq (.reg [⟨some 82, .mv (.t 2), none⟩,
  ⟨some 83, .call 15 [(.t 82)], none⟩,
  ⟨some 81, .mv (.t 83), none⟩,
  ⟨some 84, .ex 0 (.t 81), none⟩,
  ⟨some 85, .ex 1 (.t 81), none⟩,
  ⟨some 86, .ex 2 (.t 81), none⟩,
  ⟨some 12, .al (.vals [(.int .u8 0), (.int .u8 0), (.int .u8 0), (.int .u8 0), (.int .i8 0), (.int .i8 0), (.int .u32 0), (.int .u32 0), (.int .u32 0), (.int .u64 0), (.int .u64 0), (.int .u64 0), (.int .u64 0), .nils, (.bool false), (.int .u32 0), (.int .u64 0)]), none⟩,
  ⟨none, .st 17 (.t 12) (.t 84), none⟩,
  ⟨some 13, .mv (.t 85), none⟩,
  ⟨some 14, .mv (.t 86), none⟩])
 (.seq (.seq (.reg [⟨some 87, .mv (.t 14), none⟩,
  ⟨some 88, .bin .neq [] (.t 87) (.c (.int .i64 0)), none⟩])
 (.cond (.t 88)
 (.seq (.reg [⟨some 89, .mv (.t 2), none⟩,
  ⟨some 90, .len none (.t 89), none⟩,
  ⟨some 91, .bin .lss [] (.t 90) (.c (.int .i64 48)), none⟩,
  ⟨some 15, .mv (.t 91), none⟩])
 (.seq (.reg [⟨some 92, .mv (.t 14), none⟩,
  ⟨some 93, .bin .eql [] (.t 92) (.c (.int .i64 4)), none⟩,
  ⟨some 94, .mv (.t 15), none⟩,
  ⟨some 95, .bin .eql [1] (.t 93) (.t 94), none⟩,
  ⟨some 96, .mv (.t 95), none⟩,
  ⟨some 97, .mv (.t 14), some (96, true)⟩,
  ⟨some 98, .bin .eql [] (.t 97) (.c (.int .i64 5)), some (96, true)⟩,
  ⟨some 99, .mv (.t 15), some (96, true)⟩,
  ⟨some 100, .un .not (.t 99), some (96, true)⟩,
  ⟨some 101, .bin .eql [1] (.t 98) (.t 100), some (96, true)⟩,
  ⟨some 102, .pick (.t 96) (.t 101) (.c (.bool false)), none⟩,
  ⟨some 103, .mv (.t 102), none⟩,
  ⟨some 104, .ld (some 17) (.t 12), some (103, true)⟩,
  ⟨some 105, .bld [(.int .u8 0), (.int .u8 0), (.int .u8 0), (.int .u8 0), (.int .i8 0), (.int .i8 0), (.int .u32 0), (.int .u32 0), (.int .u32 0), (.int .u64 0), (.int .u64 0), (.int .u64 0), (.int .u64 0), .nils, (.bool false), (.int .u32 0), (.int .u64 0)] [], some (103, true)⟩,
  ⟨some 106, .call 12 [(.t 104), (.t 105)], some (103, true)⟩,
  ⟨some 107, .pick (.t 103) (.t 106) (.c (.bool false)), none⟩,
  ⟨some 108, .mv (.t 107), none⟩,
  ⟨some 109, .mv (.t 13), some (108, true)⟩,
  ⟨some 110, .len none (.t 109), some (108, true)⟩,
  ⟨some 111, .bin .eql [] (.t 110) (.c (.int .i64 0)), some (108, true)⟩,
  ⟨some 112, .pick (.t 108) (.t 111) (.c (.bool false)), none⟩,
  ⟨some 113, .mv (.t 112), none⟩,
  ⟨some 114, .call 14 [], some (113, true)⟩,
  ⟨some 115, .pick (.t 113) (.t 114) (.c (.bool false)), none⟩,
  ⟨some 6, .mv (.t 115), none⟩])
 (.ret)))
 (.skip)))
 (.seq (.reg [⟨some 117, .ld (some 17) (.t 12), none⟩,
  ⟨some 118, .call 8 [(.t 117)], none⟩,
  ⟨some 116, .mv (.t 118), none⟩,
  ⟨some 119, .ex 0 (.t 116), none⟩,
  ⟨some 120, .ex 1 (.t 116), none⟩,
  ⟨some 16, .mv (.t 119), none⟩,
  ⟨some 17, .mv (.t 120), none⟩])
 (.seq (.reg [⟨some 121, .mv (.t 17), none⟩,
  ⟨some 122, .bin .eql [] (.t 121) (.c (.int .i64 0)), none⟩,
  ⟨some 123, .mv (.t 122), none⟩,
  ⟨some 124, .mv (.t 16), some (123, true)⟩,
  ⟨some 125, .cstr (.t 124), some (123, true)⟩,
  ⟨some 126, .mv (.t 13), some (123, true)⟩,
  ⟨some 127, .cstr (.t 126), some (123, true)⟩,
  ⟨some 128, .bin .add [] (.t 125) (.t 127), some (123, true)⟩,
  ⟨some 129, .mv (.t 2), some (123, true)⟩,
  ⟨some 130, .cstr (.t 129), some (123, true)⟩,
  ⟨some 131, .bin .eql [] (.t 128) (.t 130), some (123, true)⟩,
  ⟨some 132, .pick (.t 123) (.t 131) (.c (.bool false)), none⟩,
  ⟨some 133, .mv (.t 132), none⟩,
  ⟨some 134, .call 14 [], some (133, true)⟩,
  ⟨some 135, .pick (.t 133) (.t 134) (.c (.bool false)), none⟩,
  ⟨some 6, .mv (.t 135), none⟩])
 (.ret))))))))),
 [.tmp 6], true⟩
/-- ephemeris/ephemerislaw04.HeadBits -/
def M6 : MFunc := ⟨.seq (.reg [⟨some 2, .bx (some .u8) 48 (.t 0), none⟩,
  ⟨some 4, .mv (.c (.bool false)), none⟩])
 (.seq (.reg [⟨some 13, .ld (some 48) (.t 2), none⟩,
  ⟨some 5, .al (.ints .u8 [0, 0, 0, 0, 0, 0, 0, 0, 0, 0, 0, 0, 0, 0, 0, 0, 0, 0, 0, 0, 0, 0, 0, 0, 0, 0, 0, 0, 0, 0, 0, 0, 0, 0, 0, 0, 0, 0, 0, 0, 0, 0, 0, 0, 0, 0, 0, 0]), none⟩,
  ⟨none, .st 48 (.t 5) (.t 13), none⟩])
 (.seq (.reg [⟨some 14, .mv (.t 1), none⟩,
  ⟨some 15, .ci .i64 (.t 14), none⟩,
  ⟨some 16, .bin .rem [] (.t 15) (.c (.int .i64 384)), none⟩,
  ⟨some 6, .mv (.t 16), none⟩])
 (.seq (.regd [(0, ⟨some 17, .mv (.t 6), none⟩),
  (1, ⟨some 18, .bin .quo [] (.t 17) (.c (.int .i64 8)), none⟩),
  (2, ⟨some 19, .ia (some 48) 1 (.t 5) (.t 18), none⟩),
  (3, ⟨some 20, .ld none (.t 19), none⟩),
  (4, ⟨some 21, .mv (.t 6), none⟩),
  (5, ⟨some 22, .bin .rem [] (.t 21) (.c (.int .i64 8)), none⟩),
  (6, ⟨some 23, .bin .shl [] (.c (.int .u8 1)) (.t 22), none⟩),
  (7, ⟨some 24, .bin .xor [] (.t 20) (.t 23), none⟩),
  (8, ⟨some 25, .ia (some 48) 1 (.t 5) (.t 18), none⟩),
  (9, ⟨none, .st 1 (.t 25) (.t 24), none⟩)] [])
 (.seq (.reg [⟨some 27, .slc (some 48) 1 (.t 2) none none none, none⟩,
  ⟨some 28, .call 15 [(.t 27)], none⟩,
  ⟨some 26, .mv (.t 28), none⟩,
  ⟨some 29, .ex 0 (.t 26), none⟩,
  ⟨some 30, .ex 1 (.t 26), none⟩,
  ⟨some 31, .ex 2 (.t 26), none⟩,
  ⟨some 7, .al (.vals [(.int .u8 0), (.int .u8 0), (.int .u8 0), (.int .u8 0), (.int .i8 0), (.int .i8 0), (.int .u32 0), (.int .u32 0), (.int .u32 0), (.int .u64 0), (.int .u64 0), (.int .u64 0), (.int .u64 0), .nils, (.bool false), (.int .u32 0), (.int .u64 0)]), none⟩,
  ⟨none, .st 17 (.t 7) (.t 29), none⟩,
  ⟨some 8, .mv (.t 30), none⟩,
  ⟨some 9, .mv (.t 31), none⟩])
 (.seq (.reg [⟨some 33, .slc (some 48) 1 (.t 5) none none none, none⟩,
  ⟨some 34, .call 15 [(.t 33)], none⟩,
  ⟨some 32, .mv (.t 34), none⟩,
  ⟨some 35, .ex 0 (.t 32), none⟩,
  ⟨some 36, .ex 1 (.t 32), none⟩,
  ⟨some 37, .ex 2 (.t 32), none⟩,
  ⟨some 10, .al (.vals [(.int .u8 0), (.int .u8 0), (.int .u8 0), (.int .u8 0), (.int .i8 0), (.int .i8 0), (.int .u32 0), (.int .u32 0), (.int .u32 0), (.int .u64 0), (.int .u64 0), (.int .u64 0), (.int .u64 0), .nils, (.bool false), (.int .u32 0), (.int .u64 0)]), none⟩,
  ⟨none, .st 17 (.t 10) (.t 35), none⟩,
  ⟨some 11, .mv (.t 36), none⟩,
  ⟨some 12, .mv (.t 37), none⟩])
 (.seq (.seq (.reg [⟨some 38, .mv (.t 9), none⟩,
  ⟨some 39, .bin .neq [] (.t 38) (.c (.int .i64 0)), none⟩,
  ⟨some 40, .mv (.t 39), none⟩,
  ⟨some 41, .mv (.t 12), some (40, false)⟩,
  ⟨some 42, .bin .neq [] (.t 41) (.c (.int .i64 0)), some (40, false)⟩,
  ⟨some 43, .pick (.t 40) (.c (.bool true)) (.t 42), none⟩])
 (.cond (.t 43)
 (.seq (.reg [⟨some 44, .mv (.t 9), none⟩,
  ⟨some 45, .bin .eql [] (.t 44) (.c (.int .i64 0)), none⟩,
  ⟨some 46, .mv (.t 45), none⟩,
  ⟨some 47, .mv (.t 9), some (46, false)⟩,
  ⟨some 48, .bin .eql [] (.t 47) (.c (.int .i64 5)), some (46, false)⟩,
  ⟨some 49, .pick (.t 46) (.c (.bool true)) (.t 48), none⟩,
  ⟨some 50, .mv (.t 49), none⟩,
  ⟨some 51, .mv (.t 12), some (50, true)⟩,
  ⟨some 52, .bin .eql [] (.t 51) (.c (.int .i64 0)), some (50, true)⟩,
  ⟨some 53, .mv (.t 52), some (50, true)⟩,
  ⟨some 54, .mv (.t 12), some (53, false)⟩,
  ⟨some 55, .bin .eql [] (.t 54) (.c (.int .i64 5)), some (53, false)⟩,
  ⟨some 56, .pick (.t 53) (.c (.bool true)) (.t 55), some (50, true)⟩,
  ⟨some 57, .pick (.t 50) (.t 56) (.c (.bool false)), none⟩,
  ⟨some 58, .mv (.t 57), none⟩,
  ⟨some 59, .mv (.t 6), some (58, true)⟩,
  ⟨some 60, .bin .geq [] (.t 59) (.c (.int .i64 3)), some (58, true)⟩,
  ⟨some 61, .mv (.t 60), some (58, true)⟩,
  ⟨some 62, .mv (.t 6), some (61, true)⟩,
  ⟨some 63, .bin .leq [] (.t 62) (.c (.int .i64 5)), some (61, true)⟩,
  ⟨some 64, .pick (.t 61) (.t 63) (.c (.bool false)), some (58, true)⟩,
  ⟨some 65, .mv (.t 64), some (58, true)⟩,
  ⟨some 66, .mv (.t 9), some (65, false)⟩,
  ⟨some 67, .mv (.t 12), some (65, false)⟩,
  ⟨some 68, .bin .eql [] (.t 66) (.t 67), some (65, false)⟩,
  ⟨some 69, .pick (.t 65) (.c (.bool true)) (.t 68), some (58, true)⟩,
  ⟨some 70, .pick (.t 58) (.t 69) (.c (.bool false)), none⟩,
  ⟨some 71, .mv (.t 70), none⟩,
  ⟨some 72, .call 14 [], some (71, true)⟩,
  ⟨some 73, .pick (.t 71) (.t 72) (.c (.bool false)), none⟩,
  ⟨some 4, .mv (.t 73), none⟩])
 (.ret))
 (.skip)))
 (.seq (.reg [⟨some 74, .ld (some 17) (.t 7), none⟩,
  ⟨some 75, .ld (some 17) (.t 10), none⟩,
  ⟨some 76, .call 12 [(.t 74), (.t 75)], none⟩,
  ⟨some 77, .un .not (.t 76), none⟩,
  ⟨some 78, .mv (.t 77), none⟩,
  ⟨some 79, .ld (some 17) (.t 7), some (78, true)⟩,
  ⟨some 80, .ld (some 17) (.t 7), some (78, true)⟩,
  ⟨some 81, .call 12 [(.t 79), (.t 80)], some (78, true)⟩,
  ⟨some 82, .pick (.t 78) (.t 81) (.c (.bool false)), none⟩,
  ⟨some 83, .mv (.t 82), none⟩,
  ⟨some 84, .call 14 [], some (83, true)⟩,
  ⟨some 85, .pick (.t 83) (.t 84) (.c (.bool false)), none⟩,
  ⟨some 4, .mv (.t 85), none⟩])
 (.ret)))))))),
 [.tmp 4], true⟩
/-- ephemeris/ephemerislaw04.HeadKnown -/
def M7 : MFunc := ⟨.seq (.reg [⟨some 0, .mv (.c (.bool false)), none⟩])
 (.seq (.reg [⟨some 26, .bld [(.int .u8 0), (.int .u8 0), (.int .u8 0), (.int .u8 0), (.int .i8 0), (.int .i8 0), (.int .u32 0), (.int .u32 0), (.int .u32 0), (.int .u64 0), (.int .u64 0), (.int .u64 0), (.int .u64 0), .nils, (.bool false), (.int .u32 0), (.int .u64 0)] [], none⟩,
  ⟨some 27, .call 8 [(.t 26)], none⟩,
  ⟨some 25, .mv (.t 27), none⟩,
  ⟨some 28, .ex 0 (.t 25), none⟩,
  ⟨some 29, .ex 1 (.t 25), none⟩,
  ⟨some 1, .mv (.t 28), none⟩,
  ⟨some 2, .mv (.t 29), none⟩])
 (.seq (.reg [⟨some 31, .bld [(.int .u8 0), (.int .u8 0), (.int .u8 0), (.int .u8 0), (.int .i8 0), (.int .i8 0), (.int .u32 0), (.int .u32 0), (.int .u32 0), (.int .u64 0), (.int .u64 0), (.int .u64 0), (.int .u64 0), .nils, (.bool false), (.int .u32 0), (.int .u64 0)] [(1, 1, (.c (.int .u8 5)))], none⟩,
  ⟨some 32, .call 8 [(.t 31)], none⟩,
  ⟨some 30, .mv (.t 32), none⟩,
  ⟨some 33, .ex 0 (.t 30), none⟩,
  ⟨some 34, .ex 1 (.t 30), none⟩,
  ⟨some 3, .mv (.t 33), none⟩,
  ⟨some 4, .mv (.t 34), none⟩])
 (.seq (.reg [⟨some 36, .bld [(.int .u8 0), (.int .u8 0), (.int .u8 0), (.int .u8 0), (.int .i8 0), (.int .i8 0), (.int .u32 0), (.int .u32 0), (.int .u32 0), (.int .u64 0), (.int .u64 0), (.int .u64 0), (.int .u64 0), .nils, (.bool false), (.int .u32 0), (.int .u64 0)] [(1, 1, (.c (.int .u8 1))), (0, 1, (.c (.int .u8 4)))], none⟩,
  ⟨some 37, .call 8 [(.t 36)], none⟩,
  ⟨some 35, .mv (.t 37), none⟩,
  ⟨some 38, .ex 0 (.t 35), none⟩,
  ⟨some 39, .ex 1 (.t 35), none⟩,
  ⟨some 5, .mv (.t 38), none⟩,
  ⟨some 6, .mv (.t 39), none⟩])
 (.seq (.reg [⟨some 41, .bld [(.int .u8 0), (.int .u8 0), (.int .u8 0), (.int .u8 0), (.int .i8 0), (.int .i8 0), (.int .u32 0), (.int .u32 0), (.int .u32 0), (.int .u64 0), (.int .u64 0), (.int .u64 0), (.int .u64 0), .nils, (.bool false), (.int .u32 0), (.int .u64 0)] [(1, 1, (.c (.int .u8 1))), (2, 1, (.c (.int .u8 8)))], none⟩,
  ⟨some 42, .call 8 [(.t 41)], none⟩,
  ⟨some 40, .mv (.t 42), none⟩,
  ⟨some 43, .ex 0 (.t 40), none⟩,
  ⟨some 44, .ex 1 (.t 40), none⟩,
  ⟨some 7, .mv (.t 43), none⟩,
  ⟨some 8, .mv (.t 44), none⟩])
 (.seq (.reg [⟨some 46, .mks (.ints .u8 [0]) 1 (.c (.int .i64 48)) (.c (.int .i64 48)), none⟩,
  ⟨some 47, .call 15 [(.t 46)], none⟩,
  ⟨some 45, .mv (.t 47), none⟩,
  ⟨some 48, .ex 0 (.t 45), none⟩,
  ⟨some 49, .ex 1 (.t 45), none⟩,
  ⟨some 50, .ex 2 (.t 45), none⟩,
  ⟨some 9, .al (.vals [(.int .u8 0), (.int .u8 0), (.int .u8 0), (.int .u8 0), (.int .i8 0), (.int .i8 0), (.int .u32 0), (.int .u32 0), (.int .u32 0), (.int .u64 0), (.int .u64 0), (.int .u64 0), (.int .u64 0), .nils, (.bool false), (.int .u32 0), (.int .u64 0)]), none⟩,
  ⟨none, .st 17 (.t 9) (.t 48), none⟩,
  ⟨some 10, .mv (.t 49), none⟩,
  ⟨some 11, .mv (.t 50), none⟩])
 (.seq (.reg [⟨some 52, .mks (.ints .u8 [0]) 1 (.c (.int .i64 47)) (.c (.int .i64 47)), none⟩,
  ⟨some 53, .call 15 [(.t 52)], none⟩,
  ⟨some 51, .mv (.t 53), none⟩,
  ⟨some 54, .ex 0 (.t 51), none⟩,
  ⟨some 55, .ex 1 (.t 51), none⟩,
  ⟨some 56, .ex 2 (.t 51), none⟩,
  ⟨some 12, .al (.vals [(.int .u8 0), (.int .u8 0), (.int .u8 0), (.int .u8 0), (.int .i8 0), (.int .i8 0), (.int .u32 0), (.int .u32 0), (.int .u32 0), (.int .u64 0), (.int .u64 0), (.int .u64 0), (.int .u64 0), .nils, (.bool false), (.int .u32 0), (.int .u64 0)]), none⟩,
  ⟨none, .st 17 (.t 12) (.t 54), none⟩,
  ⟨some 13, .mv (.t 55), none⟩,
  ⟨some 14, .mv (.t 56), none⟩])
 (.seq (.reg [⟨some 57, .mks (.ints .u8 [0]) 1 (.c (.int .i64 48)) (.c (.int .i64 48)), none⟩,
  ⟨some 15, .mv (.t 57), none⟩])
 (.seq (.reg [⟨some 58, .mv (.t 15), none⟩,
  ⟨some 59, .ia none 1 (.t 58) (.c (.int .i64 0)), none⟩,
  ⟨none, .st 1 (.t 59) (.c (.int .u8 40)), none⟩])
 (.seq (.reg [⟨some 61, .mv (.t 15), none⟩,
  ⟨some 62, .call 15 [(.t 61)], none⟩,
  ⟨some 60, .mv (.t 62), none⟩,
  ⟨some 63, .ex 0 (.t 60), none⟩,
  ⟨some 64, .ex 1 (.t 60), none⟩,
  ⟨some 65, .ex 2 (.t 60), none⟩,
  ⟨some 16, .al (.vals [(.int .u8 0), (.int .u8 0), (.int .u8 0), (.int .u8 0), (.int .i8 0), (.int .i8 0), (.int .u32 0), (.int .u32 0), (.int .u32 0), (.int .u64 0), (.int .u64 0), (.int .u64 0), (.int .u64 0), .nils, (.bool false), (.int .u32 0), (.int .u64 0)]), none⟩,
  ⟨none, .st 17 (.t 16) (.t 63), none⟩,
  ⟨some 17, .mv (.t 64), none⟩,
  ⟨some 18, .mv (.t 65), none⟩])
 (.seq (.reg [⟨some 66, .mv (.t 15), none⟩,
  ⟨some 67, .ia none 1 (.t 66) (.c (.int .i64 0)), none⟩,
  ⟨none, .st 1 (.t 67) (.c (.int .u8 8)), none⟩])
 (.seq (.reg [⟨some 68, .mv (.t 15), none⟩,
  ⟨some 69, .ia none 1 (.t 68) (.c (.int .i64 3)), none⟩,
  ⟨none, .st 1 (.t 69) (.c (.int .u8 128)), none⟩])
 (.seq (.reg [⟨some 71, .mv (.t 15), none⟩,
  ⟨some 72, .call 15 [(.t 71)], none⟩,
  ⟨some 70, .mv (.t 72), none⟩,
  ⟨some 73, .ex 0 (.t 70), none⟩,
  ⟨some 74, .ex 1 (.t 70), none⟩,
  ⟨some 75, .ex 2 (.t 70), none⟩,
  ⟨some 19, .al (.vals [(.int .u8 0), (.int .u8 0), (.int .u8 0), (.int .u8 0), (.int .i8 0), (.int .i8 0), (.int .u32 0), (.int .u32 0), (.int .u32 0), (.int .u64 0), (.int .u64 0), (.int .u64 0), (.int .u64 0), .nils, (.bool false), (.int .u32 0), (.int .u64 0)]), none⟩,
  ⟨none, .st 17 (.t 19) (.t 73), none⟩,
  ⟨some 20, .mv (.t 74), none⟩,
  ⟨some 21, .mv (.t 75), none⟩])
 (.seq (.reg [⟨some 76, .bld [(.int .u16 0), .nils] [(0, 1, (.c (.int .u16 1)))], none⟩,
  ⟨some 77, .bsl (.vals [(.int .u16 0), .nils]) 1 2 [(0, 2, (.t 76))], none⟩,
  ⟨some 78, .bld [(.int .u8 0), (.int .u8 0), (.int .u8 0), (.int .u8 0), (.int .i8 0), (.int .i8 0), (.int .u32 0), (.int .u32 0), (.int .u32 0), (.int .u64 0), (.int .u64 0), (.int .u64 0), (.int .u64 0), .nils, (.bool false), (.int .u32 0), (.int .u64 0)] [(1, 1, (.c (.int .u8 1))), (5, 1, (.c (.int .i8 (-128)))), (14, 1, (.c (.bool true))), (15, 1, (.c (.int .u32 3))), (16, 1, (.c (.int .u64 9))), (13, 1, (.t 77))], none⟩,
  ⟨some 22, .al (.vals [(.int .u8 0), (.int .u8 0), (.int .u8 0), (.int .u8 0), (.int .i8 0), (.int .i8 0), (.int .u32 0), (.int .u32 0), (.int .u32 0), (.int .u64 0), (.int .u64 0), (.int .u64 0), (.int .u64 0), .nils, (.bool false), (.int .u32 0), (.int .u64 0)]), none⟩,
  ⟨none, .st 17 (.t 22) (.t 78), none⟩])
 (.seq (.reg [⟨some 80, .ld (some 17) (.t 22), none⟩,
  ⟨some 81, .call 8 [(.t 80)], none⟩,
  ⟨some 79, .mv (.t 81), none⟩,
  ⟨some 82, .ex 0 (.t 79), none⟩,
  ⟨some 83, .ex 1 (.t 79), none⟩,
  ⟨some 23, .mv (.t 82), none⟩,
  ⟨some 24, .mv (.t 83), none⟩])
 (.seq (.reg [⟨some 84, .mv (.t 2), none⟩,
  ⟨some 85, .bin .eql [] (.t 84) (.c (.int .i64 1)), none⟩,
  ⟨some 86, .mv (.t 85), none⟩,
  ⟨some 87, .mv (.t 4), some (86, true)⟩,
  ⟨some 88, .bin .eql [] (.t 87) (.c (.int .i64 1)), some (86, true)⟩,
  ⟨some 89, .pick (.t 86) (.t 88) (.c (.bool false)), none⟩,
  ⟨some 90, .mv (.t 89), none⟩,
  ⟨some 91, .mv (.t 6), some (90, true)⟩,
  ⟨some 92, .bin .eql [] (.t 91) (.c (.int .i64 1)), some (90, true)⟩,
  ⟨some 93, .pick (.t 90) (.t 92) (.c (.bool false)), none⟩,
  ⟨some 94, .mv (.t 93), none⟩,
  ⟨some 95, .mv (.t 8), some (94, true)⟩,
  ⟨some 96, .bin .eql [] (.t 95) (.c (.int .i64 1)), some (94, true)⟩,
  ⟨some 97, .pick (.t 94) (.t 96) (.c (.bool false)), none⟩,
  ⟨some 98, .mv (.t 97), none⟩,
  ⟨some 99, .mv (.t 11), some (98, true)⟩,
  ⟨some 100, .bin .eql [] (.t 99) (.c (.int .i64 5)), some (98, true)⟩,
  ⟨some 101, .pick (.t 98) (.t 100) (.c (.bool false)), none⟩,
  ⟨some 102, .mv (.t 101), none⟩,
  ⟨some 103, .mv (.t 14), some (102, true)⟩,
  ⟨some 104, .bin .eql [] (.t 103) (.c (.int .i64 4)), some (102, true)⟩,
  ⟨some 105, .pick (.t 102) (.t 104) (.c (.bool false)), none⟩,
  ⟨some 106, .mv (.t 105), none⟩,
  ⟨some 107, .mv (.t 18), some (106, true)⟩,
  ⟨some 108, .bin .eql [] (.t 107) (.c (.int .i64 5)), some (106, true)⟩,
  ⟨some 109, .pick (.t 106) (.t 108) (.c (.bool false)), none⟩,
  ⟨some 110, .mv (.t 109), none⟩,
  ⟨some 111, .mv (.t 21), some (110, true)⟩,
  ⟨some 112, .bin .eql [] (.t 111) (.c (.int .i64 0)), some (110, true)⟩,
  ⟨some 113, .pick (.t 110) (.t 112) (.c (.bool false)), none⟩,
  ⟨some 114, .mv (.t 113), none⟩,
  ⟨some 115, .mv (.t 20), some (114, true)⟩,
  ⟨some 116, .len none (.t 115), some (114, true)⟩,
  ⟨some 117, .bin .eql [] (.t 116) (.c (.int .i64 0)), some (114, true)⟩,
  ⟨some 118, .pick (.t 114) (.t 117) (.c (.bool false)), none⟩,
  ⟨some 119, .mv (.t 118), none⟩,
  ⟨some 120, .fa 5 (.t 19), some (119, true)⟩,
  ⟨some 121, .ld none (.t 120), some (119, true)⟩,
  ⟨some 122, .bin .eql [] (.t 121) (.c (.int .i8 (-128))), some (119, true)⟩,
  ⟨some 123, .pick (.t 119) (.t 122) (.c (.bool false)), none⟩,
  ⟨some 124, .mv (.t 123), none⟩,
  ⟨some 125, .mv (.t 24), some (124, true)⟩,
  ⟨some 126, .bin .eql [] (.t 125) (.c (.int .i64 0)), some (124, true)⟩,
  ⟨some 127, .pick (.t 124) (.t 126) (.c (.bool false)), none⟩,
  ⟨some 128, .mv (.t 127), none⟩,
  ⟨some 129, .mv (.t 23), some (128, true)⟩,
  ⟨some 130, .cstr (.t 129), some (128, true)⟩,
  ⟨some 131, .mv (.t 15), some (128, true)⟩,
  ⟨some 132, .cstr (.t 131), some (128, true)⟩,
  ⟨some 133, .bin .eql [] (.t 130) (.t 132), some (128, true)⟩,
  ⟨some 134, .pick (.t 128) (.t 133) (.c (.bool false)), none⟩,
  ⟨some 135, .mv (.t 134), none⟩,
  ⟨some 136, .ld (some 17) (.t 19), some (135, true)⟩,
  ⟨some 137, .ld (some 17) (.t 22), some (135, true)⟩,
  ⟨some 138, .call 12 [(.t 136), (.t 137)], some (135, true)⟩,
  ⟨some 139, .pick (.t 135) (.t 138) (.c (.bool false)), none⟩,
  ⟨some 140, .mv (.t 139), none⟩,
  ⟨some 141, .call 14 [], some (140, true)⟩,
  ⟨some 142, .pick (.t 140) (.t 141) (.c (.bool false)), none⟩,
  ⟨some 0, .mv (.t 142), none⟩])
 (.ret)))))))))))))))),
 [.tmp 0], true⟩
/-- ephemeris/head.Put -/
def M8 : MFunc := ⟨.seq (.reg [⟨some 1, .bx none 17 (.t 0), none⟩,
  ⟨some 2, .mv (.c .nils), none⟩,
  ⟨some 3, .mv (.c (.int .i64 0)), none⟩])
 (.seq (.seq (.reg [⟨some 5, .ld (some 17) (.t 1), none⟩,
  ⟨some 6, .call 10 [(.t 5)], none⟩,
  ⟨some 7, .un .not (.t 6), none⟩])
 (.cond (.t 7)
 (.seq (.reg [⟨some 2, .mv (.c .nils), none⟩,
  ⟨some 3, .mv (.c (.int .i64 1)), none⟩])
 (.ret))
 (.skip)))
 (.seq (.reg [⟨some 8, .fa 0 (.t 1), none⟩,
  ⟨some 9, .ld none (.t 8), none⟩,
  ⟨some 10, .ci .u64 (.t 9), none⟩,
  ⟨some 11, .bin .shl [] (.t 10) (.c (.int .u64 6)), none⟩,
  ⟨some 12, .fa 1 (.t 1), none⟩,
  ⟨some 13, .ld none (.t 12), none⟩,
  ⟨some 14, .ci .u64 (.t 13), none⟩,
  ⟨some 15, .bin .shl [] (.t 14) (.c (.int .u64 3)), none⟩,
  ⟨some 16, .bin .or [] (.t 11) (.t 15), none⟩,
  ⟨some 17, .fa 2 (.t 1), none⟩,
  ⟨some 18, .ld none (.t 17), none⟩,
  ⟨some 19, .ci .u64 (.t 18), none⟩,
  ⟨some 20, .bin .or [] (.t 16) (.t 19), none⟩,
  ⟨some 4, .mv (.t 20), none⟩])
 (.seq (.regd [(0, ⟨some 21, .slc (some 11) 1 (.g 0) none none none, none⟩),
  (1, ⟨some 22, .mv (.t 4), none⟩),
  (2, ⟨some 23, .fa 3 (.t 1), none⟩),
  (3, ⟨some 24, .ld none (.t 23), none⟩),
  (4, ⟨some 25, .ci .u64 (.t 24), none⟩),
  (5, ⟨some 26, .fa 4 (.t 1), none⟩),
  (6, ⟨some 27, .ld none (.t 26), none⟩),
  (7, ⟨some 28, .ci .u8 (.t 27), none⟩),
  (8, ⟨some 29, .ci .u64 (.t 28), none⟩),
  (9, ⟨some 30, .fa 5 (.t 1), none⟩),
  (10, ⟨some 31, .ld none (.t 30), none⟩),
  (11, ⟨some 32, .ci .u8 (.t 31), none⟩),
  (12, ⟨some 33, .ci .u64 (.t 32), none⟩),
  (13, ⟨some 34, .fa 6 (.t 1), none⟩),
  (14, ⟨some 35, .ld none (.t 34), none⟩),
  (15, ⟨some 36, .ci .u64 (.t 35), none⟩),
  (16, ⟨some 37, .fa 7 (.t 1), none⟩),
  (17, ⟨some 38, .ld none (.t 37), none⟩),
  (18, ⟨some 39, .ci .u64 (.t 38), none⟩),
  (19, ⟨some 40, .fa 8 (.t 1), none⟩),
  (20, ⟨some 41, .ld none (.t 40), none⟩),
  (21, ⟨some 42, .ci .u64 (.t 41), none⟩),
  (22, ⟨some 43, .fa 9 (.t 1), none⟩),
  (23, ⟨some 44, .ld none (.t 43), none⟩),
  (24, ⟨some 45, .fa 10 (.t 1), none⟩),
  (25, ⟨some 46, .ld none (.t 45), none⟩),
  (26, ⟨some 47, .fa 11 (.t 1), none⟩),
  (27, ⟨some 48, .ld none (.t 47), none⟩),
  (28, ⟨some 49, .fa 12 (.t 1), none⟩),
  (29, ⟨some 50, .ld none (.t 49), none⟩),
  (30, ⟨some 51, .bsl (.ints .u64 [0]) 11 1 [(0, 1, (.t 22)), (1, 1, (.t 25)), (2, 1, (.t 29)), (3, 1, (.t 33)), (4, 1, (.t 36)), (5, 1, (.t 39)), (6, 1, (.t 42)), (7, 1, (.t 44)), (8, 1, (.t 46)), (9, 1, (.t 48)), (10, 1, (.t 50))], none⟩),
  (31, ⟨some 52, .call 17 [(.t 21), (.t 51)], none⟩),
  (32, ⟨some 53, .ex 0 (.t 52), none⟩),
  (33, ⟨some 54, .ex 1 (.t 52), none⟩),
  (34, ⟨some 2, .mv (.t 53), none⟩),
  (35, ⟨some 3, .mv (.t 54), none⟩)] [])
 (.ret)))),
 [.tmp 2, .tmp 3], true⟩
/-- ephemeris/ephemerisref04.Put -/
def M9 : MFunc := ⟨.seq (.reg [⟨some 1, .bx none 17 (.t 0), none⟩,
  ⟨some 2, .mv (.c .nils), none⟩,
  ⟨some 3, .mv (.c (.int .i64 0)), none⟩])
 (.seq (.seq (.reg [⟨some 5, .ld (some 17) (.t 1), none⟩,
  ⟨some 6, .call 11 [(.t 5)], none⟩,
  ⟨some 7, .un .not (.t 6), none⟩])
 (.cond (.t 7)
 (.seq (.reg [⟨some 2, .mv (.c .nils), none⟩,
  ⟨some 3, .mv (.c (.int .i64 1)), none⟩])
 (.ret))
 (.skip)))
 (.seq (.reg [⟨some 4, .mv (.c .nils), none⟩])
 (.seq (.reg [⟨some 8, .mv (.t 4), none⟩,
  ⟨some 9, .fa 0 (.t 1), none⟩,
  ⟨some 10, .ld none (.t 9), none⟩,
  ⟨some 11, .ci .u64 (.t 10), none⟩,
  ⟨some 12, .bin .mul [] (.t 11) (.c (.int .u64 64)), none⟩,
  ⟨some 13, .fa 1 (.t 1), none⟩,
  ⟨some 14, .ld none (.t 13), none⟩,
  ⟨some 15, .ci .u64 (.t 14), none⟩,
  ⟨some 16, .bin .mul [] (.t 15) (.c (.int .u64 8)), none⟩,
  ⟨some 17, .bin .add [] (.t 12) (.t 16), none⟩,
  ⟨some 18, .fa 2 (.t 1), none⟩,
  ⟨some 19, .ld none (.t 18), none⟩,
  ⟨some 20, .ci .u64 (.t 19), none⟩,
  ⟨some 21, .bin .add [] (.t 17) (.t 20), none⟩,
  ⟨some 22, .call 18 [(.t 8), (.t 21), (.c (.int .i64 1))], none⟩,
  ⟨some 4, .mv (.t 22), none⟩])
 (.seq (.reg [⟨some 23, .mv (.t 4), none⟩,
  ⟨some 24, .fa 3 (.t 1), none⟩,
  ⟨some 25, .ld none (.t 24), none⟩,
  ⟨some 26, .ci .u64 (.t 25), none⟩,
  ⟨some 27, .call 18 [(.t 23), (.t 26), (.c (.int .i64 1))], none⟩,
  ⟨some 4, .mv (.t 27), none⟩])
 (.seq (.reg [⟨some 28, .mv (.t 4), none⟩,
  ⟨some 29, .fa 4 (.t 1), none⟩,
  ⟨some 30, .ld none (.t 29), none⟩,
  ⟨some 31, .call 19 [(.t 30)], none⟩,
  ⟨some 32, .call 18 [(.t 28), (.t 31), (.c (.int .i64 1))], none⟩,
  ⟨some 4, .mv (.t 32), none⟩])
 (.seq (.reg [⟨some 33, .mv (.t 4), none⟩,
  ⟨some 34, .fa 5 (.t 1), none⟩,
  ⟨some 35, .ld none (.t 34), none⟩,
  ⟨some 36, .call 19 [(.t 35)], none⟩,
  ⟨some 37, .call 18 [(.t 33), (.t 36), (.c (.int .i64 1))], none⟩,
  ⟨some 4, .mv (.t 37), none⟩])
 (.seq (.reg [⟨some 38, .mv (.t 4), none⟩,
  ⟨some 39, .fa 6 (.t 1), none⟩,
  ⟨some 40, .ld none (.t 39), none⟩,
  ⟨some 41, .ci .u64 (.t 40), none⟩,
  ⟨some 42, .call 18 [(.t 38), (.t 41), (.c (.int .i64 4))], none⟩,
  ⟨some 4, .mv (.t 42), none⟩])
 (.seq (.reg [⟨some 43, .mv (.t 4), none⟩,
  ⟨some 44, .fa 7 (.t 1), none⟩,
  ⟨some 45, .ld none (.t 44), none⟩,
  ⟨some 46, .ci .u64 (.t 45), none⟩,
  ⟨some 47, .call 18 [(.t 43), (.t 46), (.c (.int .i64 4))], none⟩,
  ⟨some 4, .mv (.t 47), none⟩])
 (.seq (.reg [⟨some 48, .mv (.t 4), none⟩,
  ⟨some 49, .fa 8 (.t 1), none⟩,
  ⟨some 50, .ld none (.t 49), none⟩,
  ⟨some 51, .ci .u64 (.t 50), none⟩,
  ⟨some 52, .call 18 [(.t 48), (.t 51), (.c (.int .i64 4))], none⟩,
  ⟨some 4, .mv (.t 52), none⟩])
 (.seq (.reg [⟨some 53, .mv (.t 4), none⟩,
  ⟨some 54, .fa 9 (.t 1), none⟩,
  ⟨some 55, .ld none (.t 54), none⟩,
  ⟨some 56, .call 18 [(.t 53), (.t 55), (.c (.int .i64 8))], none⟩,
  ⟨some 4, .mv (.t 56), none⟩])
 (.seq (.reg [⟨some 57, .mv (.t 4), none⟩,
  ⟨some 58, .fa 10 (.t 1), none⟩,
  ⟨some 59, .ld none (.t 58), none⟩,
  ⟨some 60, .call 18 [(.t 57), (.t 59), (.c (.int .i64 8))], none⟩,
  ⟨some 4, .mv (.t 60), none⟩])
 (.seq (.reg [⟨some 61, .mv (.t 4), none⟩,
  ⟨some 62, .fa 11 (.t 1), none⟩,
  ⟨some 63, .ld none (.t 62), none⟩,
  ⟨some 64, .call 18 [(.t 61), (.t 63), (.c (.int .i64 8))], none⟩,
  ⟨some 4, .mv (.t 64), none⟩])
 (.seq (.reg [⟨some 65, .mv (.t 4), none⟩,
  ⟨some 66, .fa 12 (.t 1), none⟩,
  ⟨some 67, .ld none (.t 66), none⟩,
  ⟨some 68, .call 18 [(.t 65), (.t 67), (.c (.int .i64 8))], none⟩,
  ⟨some 2, .mv (.t 68), none⟩,
  ⟨some 3, .mv (.c (.int .i64 0)), none⟩])
 (.ret)))))))))))))),
 [.tmp 2, .tmp 3], true⟩
/-- ephemeris/head.May -/
def M10 : MFunc := ⟨.seq (.reg [⟨some 1, .bx none 17 (.t 0), none⟩,
  ⟨some 2, .mv (.c (.bool false)), none⟩])
 (.seq (.reg [⟨some 3, .fa 0 (.t 1), none⟩,
  ⟨some 4, .ld none (.t 3), none⟩,
  ⟨some 5, .bin .leq [] (.t 4) (.c (.int .u8 3)), none⟩,
  ⟨some 6, .mv (.t 5), none⟩,
  ⟨some 7, .fa 1 (.t 1), some (6, true)⟩,
  ⟨some 8, .ld none (.t 7), some (6, true)⟩,
  ⟨some 9, .bin .geq [] (.t 8) (.c (.int .u8 1)), some (6, true)⟩,
  ⟨some 10, .pick (.t 6) (.t 9) (.c (.bool false)), none⟩,
  ⟨some 11, .mv (.t 10), none⟩,
  ⟨some 12, .fa 1 (.t 1), some (11, true)⟩,
  ⟨some 13, .ld none (.t 12), some (11, true)⟩,
  ⟨some 14, .bin .leq [] (.t 13) (.c (.int .u8 4)), some (11, true)⟩,
  ⟨some 15, .pick (.t 11) (.t 14) (.c (.bool false)), none⟩,
  ⟨some 16, .mv (.t 15), none⟩,
  ⟨some 17, .fa 2 (.t 1), some (16, true)⟩,
  ⟨some 18, .ld none (.t 17), some (16, true)⟩,
  ⟨some 19, .bin .leq [] (.t 18) (.c (.int .u8 7)), some (16, true)⟩,
  ⟨some 20, .pick (.t 16) (.t 19) (.c (.bool false)), none⟩,
  ⟨some 2, .mv (.t 20), none⟩])
 (.ret)),
 [.tmp 2], true⟩
/-- ephemeris/ephemerisref04.May -/
def M11 : MFunc := ⟨.seq (.reg [⟨some 1, .bx none 17 (.t 0), none⟩,
  ⟨some 2, .mv (.c (.bool false)), none⟩])
 (.seq (.reg [⟨some 3, .fa 0 (.t 1), none⟩,
  ⟨some 4, .ld none (.t 3), none⟩,
  ⟨some 5, .bin .lss [] (.t 4) (.c (.int .u8 4)), none⟩,
  ⟨some 6, .mv (.t 5), none⟩,
  ⟨some 7, .fa 1 (.t 1), some (6, true)⟩,
  ⟨some 8, .ld none (.t 7), some (6, true)⟩,
  ⟨some 9, .bin .gtr [] (.t 8) (.c (.int .u8 0)), some (6, true)⟩,
  ⟨some 10, .pick (.t 6) (.t 9) (.c (.bool false)), none⟩,
  ⟨some 11, .mv (.t 10), none⟩,
  ⟨some 12, .fa 1 (.t 1), some (11, true)⟩,
  ⟨some 13, .ld none (.t 12), some (11, true)⟩,
  ⟨some 14, .bin .lss [] (.t 13) (.c (.int .u8 5)), some (11, true)⟩,
  ⟨some 15, .pick (.t 11) (.t 14) (.c (.bool false)), none⟩,
  ⟨some 16, .mv (.t 15), none⟩,
  ⟨some 17, .fa 2 (.t 1), some (16, true)⟩,
  ⟨some 18, .ld none (.t 17), some (16, true)⟩,
  ⟨some 19, .bin .lss [] (.t 18) (.c (.int .u8 8)), some (16, true)⟩,
  ⟨some 20, .pick (.t 16) (.t 19) (.c (.bool false)), none⟩,
  ⟨some 2, .mv (.t 20), none⟩])
 (.ret)),
 [.tmp 2], true⟩
/-- ephemeris/head.Same -/
def M12 : MFunc := ⟨.seq (.reg [⟨some 2, .bx none 17 (.t 0), none⟩,
  ⟨some 3, .bx none 17 (.t 1), none⟩,
  ⟨some 4, .mv (.c (.bool false)), none⟩])
 (.seq (.regd [(0, ⟨some 5, .ld (some 17) (.t 2), none⟩),
  (1, ⟨some 6, .call 20 [(.t 5)], none⟩),
  (2, ⟨some 7, .ld (some 17) (.t 3), none⟩),
  (3, ⟨some 8, .call 20 [(.t 7)], none⟩),
  (4, ⟨some 9, .bin .eql [5, 0, 0, 0, 0, 0, 0, 0, 0, 0, 0, 0, 0, 0] (.t 6) (.t 8), none⟩),
  (5, ⟨some 4, .mv (.t 9), none⟩)] [(2, 1)])
 (.ret)),
 [.tmp 4], true⟩
/-- ephemeris/ephemerisref04.Same -/
def M13 : MFunc := ⟨.seq (.reg [⟨some 2, .bx none 17 (.t 0), none⟩,
  ⟨some 3, .bx none 17 (.t 1), none⟩,
  ⟨some 4, .mv (.c (.bool false)), none⟩])
 (.seq (.reg [⟨some 10, .ld (some 17) (.t 2), none⟩,
  ⟨some 11, .call 9 [(.t 10)], none⟩,
  ⟨some 9, .mv (.t 11), none⟩,
  ⟨some 12, .ex 0 (.t 9), none⟩,
  ⟨some 13, .ex 1 (.t 9), none⟩,
  ⟨some 5, .mv (.t 12), none⟩,
  ⟨some 6, .mv (.t 13), none⟩])
 (.seq (.reg [⟨some 15, .ld (some 17) (.t 3), none⟩,
  ⟨some 16, .call 9 [(.t 15)], none⟩,
  ⟨some 14, .mv (.t 16), none⟩,
  ⟨some 17, .ex 0 (.t 14), none⟩,
  ⟨some 18, .ex 1 (.t 14), none⟩,
  ⟨some 7, .mv (.t 17), none⟩,
  ⟨some 8, .mv (.t 18), none⟩])
 (.seq (.seq (.reg [⟨some 19, .mv (.t 6), none⟩,
  ⟨some 20, .bin .eql [] (.t 19) (.c (.int .i64 0)), none⟩,
  ⟨some 21, .mv (.t 20), none⟩,
  ⟨some 22, .mv (.t 8), some (21, false)⟩,
  ⟨some 23, .bin .eql [] (.t 22) (.c (.int .i64 0)), some (21, false)⟩,
  ⟨some 24, .pick (.t 21) (.c (.bool true)) (.t 23), none⟩])
 (.cond (.t 24)
 (.seq (.reg [⟨some 25, .mv (.t 6), none⟩,
  ⟨some 26, .mv (.t 8), none⟩,
  ⟨some 27, .bin .eql [] (.t 25) (.t 26), none⟩,
  ⟨some 28, .mv (.t 27), none⟩,
  ⟨some 29, .mv (.t 5), some (28, true)⟩,
  ⟨some 30, .cstr (.t 29), some (28, true)⟩,
  ⟨some 31, .mv (.t 7), some (28, true)⟩,
  ⟨some 32, .cstr (.t 31), some (28, true)⟩,
  ⟨some 33, .bin .eql [] (.t 30) (.t 32), some (28, true)⟩,
  ⟨some 34, .pick (.t 28) (.t 33) (.c (.bool false)), none⟩,
  ⟨some 4, .mv (.t 34), none⟩])
 (.ret))
 (.skip)))
 (.seq (.seq (.reg [⟨some 35, .fa 0 (.t 2), none⟩,
  ⟨some 36, .ld none (.t 35), none⟩,
  ⟨some 37, .fa 0 (.t 3), none⟩,
  ⟨some 38, .ld none (.t 37), none⟩,
  ⟨some 39, .bin .neq [] (.t 36) (.t 38), none⟩,
  ⟨some 40, .mv (.t 39), none⟩,
  ⟨some 41, .fa 1 (.t 2), some (40, false)⟩,
  ⟨some 42, .ld none (.t 41), some (40, false)⟩,
  ⟨some 43, .fa 1 (.t 3), some (40, false)⟩,
  ⟨some 44, .ld none (.t 43), some (40, false)⟩,
  ⟨some 45, .bin .neq [] (.t 42) (.t 44), some (40, false)⟩,
  ⟨some 46, .pick (.t 40) (.c (.bool true)) (.t 45), none⟩,
  ⟨some 47, .mv (.t 46), none⟩,
  ⟨some 48, .fa 2 (.t 2), some (47, false)⟩,
  ⟨some 49, .ld none (.t 48), some (47, false)⟩,
  ⟨some 50, .fa 2 (.t 3), some (47, false)⟩,
  ⟨some 51, .ld none (.t 50), some (47, false)⟩,
  ⟨some 52, .bin .neq [] (.t 49) (.t 51), some (47, false)⟩,
  ⟨some 53, .pick (.t 47) (.c (.bool true)) (.t 52), none⟩])
 (.cond (.t 53)
 (.seq (.reg [⟨some 4, .mv (.c (.bool false)), none⟩])
 (.ret))
 (.skip)))
 (.seq (.reg [⟨some 54, .fa 0 (.t 2), none⟩,
  ⟨none, .st 1 (.t 54) (.c (.int .u8 0)), none⟩,
  ⟨some 55, .fa 1 (.t 2), none⟩,
  ⟨none, .st 1 (.t 55) (.c (.int .u8 1)), none⟩,
  ⟨some 56, .fa 2 (.t 2), none⟩,
  ⟨none, .st 1 (.t 56) (.c (.int .u8 0)), none⟩])
 (.seq (.reg [⟨some 57, .fa 0 (.t 3), none⟩,
  ⟨none, .st 1 (.t 57) (.c (.int .u8 0)), none⟩,
  ⟨some 58, .fa 1 (.t 3), none⟩,
  ⟨none, .st 1 (.t 58) (.c (.int .u8 1)), none⟩,
  ⟨some 59, .fa 2 (.t 3), none⟩,
  ⟨none, .st 1 (.t 59) (.c (.int .u8 0)), none⟩])
 (.seq (.reg [⟨some 61, .ld (some 17) (.t 2), none⟩,
  ⟨some 62, .call 9 [(.t 61)], none⟩,
  ⟨some 60, .mv (.t 62), none⟩,
  ⟨some 63, .ex 0 (.t 60), none⟩,
  ⟨some 64, .ex 1 (.t 60), none⟩,
  ⟨some 5, .mv (.t 63), none⟩])
 (.seq (.reg [⟨some 66, .ld (some 17) (.t 3), none⟩,
  ⟨some 67, .call 9 [(.t 66)], none⟩,
  ⟨some 65, .mv (.t 67), none⟩,
  ⟨some 68, .ex 0 (.t 65), none⟩,
  ⟨some 69, .ex 1 (.t 65), none⟩,
  ⟨some 7, .mv (.t 68), none⟩])
 (.seq (.reg [⟨some 70, .mv (.t 5), none⟩,
  ⟨some 71, .cstr (.t 70), none⟩,
  ⟨some 72, .mv (.t 7), none⟩,
  ⟨some 73, .cstr (.t 72), none⟩,
  ⟨some 74, .bin .eql [] (.t 71) (.t 73), none⟩,
  ⟨some 4, .mv (.t 74), none⟩])
 (.ret)))))))))),
 [.tmp 4], true⟩
/-- ephemeris/ephemerislaw04.alive -/
def M14 : MFunc := ⟨.seq (.reg [⟨some 0, .mv (.c (.bool false)), none⟩])
 (.seq (.reg [⟨some 6, .bld [(.int .u8 0), (.int .u8 0), (.int .u8 0), (.int .u8 0), (.int .i8 0), (.int .i8 0), (.int .u32 0), (.int .u32 0), (.int .u32 0), (.int .u64 0), (.int .u64 0), (.int .u64 0), (.int .u64 0), .nils, (.bool false), (.int .u32 0), (.int .u64 0)] [(1, 1, (.c (.int .u8 4))), (2, 1, (.c (.int .u8 3)))], none⟩,
  ⟨some 7, .call 8 [(.t 6)], none⟩,
  ⟨some 5, .mv (.t 7), none⟩,
  ⟨some 8, .ex 0 (.t 5), none⟩,
  ⟨some 9, .ex 1 (.t 5), none⟩,
  ⟨some 1, .mv (.t 8), none⟩,
  ⟨some 2, .mv (.t 9), none⟩])
 (.seq (.reg [⟨some 11, .bld [(.int .u8 0), (.int .u8 0), (.int .u8 0), (.int .u8 0), (.int .i8 0), (.int .i8 0), (.int .u32 0), (.int .u32 0), (.int .u32 0), (.int .u64 0), (.int .u64 0), (.int .u64 0), (.int .u64 0), .nils, (.bool false), (.int .u32 0), (.int .u64 0)] [(0, 1, (.c (.int .u8 3))), (1, 1, (.c (.int .u8 4))), (2, 1, (.c (.int .u8 4))), (4, 1, (.c (.int .i8 (-6)))), (8, 1, (.c (.int .u32 1196446464)))], none⟩,
  ⟨some 12, .call 8 [(.t 11)], none⟩,
  ⟨some 10, .mv (.t 12), none⟩,
  ⟨some 13, .ex 0 (.t 10), none⟩,
  ⟨some 14, .ex 1 (.t 10), none⟩,
  ⟨some 3, .mv (.t 13), none⟩,
  ⟨some 4, .mv (.t 14), none⟩])
 (.seq (.reg [⟨some 15, .mv (.t 2), none⟩,
  ⟨some 16, .bin .eql [] (.t 15) (.c (.int .i64 0)), none⟩,
  ⟨some 17, .mv (.t 16), none⟩,
  ⟨some 18, .mv (.t 1), some (17, true)⟩,
  ⟨some 19, .len none (.t 18), some (17, true)⟩,
  ⟨some 20, .bin .eql [] (.t 19) (.c (.int .i64 48)), some (17, true)⟩,
  ⟨some 21, .pick (.t 17) (.t 20) (.c (.bool false)), none⟩,
  ⟨some 22, .mv (.t 21), none⟩,
  ⟨some 23, .mv (.t 1), some (22, true)⟩,
  ⟨some 24, .ia none 1 (.t 23) (.c (.int .i64 0)), some (22, true)⟩,
  ⟨some 25, .ld none (.t 24), some (22, true)⟩,
  ⟨some 26, .bin .eql [] (.t 25) (.c (.int .u8 35)), some (22, true)⟩,
  ⟨some 27, .pick (.t 22) (.t 26) (.c (.bool false)), none⟩,
  ⟨some 28, .mv (.t 27), none⟩,
  ⟨some 29, .mv (.t 4), some (28, true)⟩,
  ⟨some 30, .bin .eql [] (.t 29) (.c (.int .i64 0)), some (28, true)⟩,
  ⟨some 31, .pick (.t 28) (.t 30) (.c (.bool false)), none⟩,
  ⟨some 32, .mv (.t 31), none⟩,
  ⟨some 33, .mv (.t 3), some (32, true)⟩,
  ⟨some 34, .len none (.t 33), some (32, true)⟩,
  ⟨some 35, .bin .eql [] (.t 34) (.c (.int .i64 48)), some (32, true)⟩,
  ⟨some 36, .pick (.t 32) (.t 35) (.c (.bool false)), none⟩,
  ⟨some 37, .mv (.t 36), none⟩,
  ⟨some 38, .mv (.t 3), some (37, true)⟩,
  ⟨some 39, .ia none 1 (.t 38) (.c (.int .i64 0)), some (37, true)⟩,
  ⟨some 40, .ld none (.t 39), some (37, true)⟩,
  ⟨some 41, .bin .eql [] (.t 40) (.c (.int .u8 228)), some (37, true)⟩,
  ⟨some 42, .pick (.t 37) (.t 41) (.c (.bool false)), none⟩,
  ⟨some 43, .mv (.t 42), none⟩,
  ⟨some 44, .mv (.t 3), some (43, true)⟩,
  ⟨some 45, .ia none 1 (.t 44) (.c (.int .i64 2)), some (43, true)⟩,
  ⟨some 46, .ld none (.t 45), some (43, true)⟩,
  ⟨some 47, .bin .eql [] (.t 46) (.c (.int .u8 250)), some (43, true)⟩,
  ⟨some 48, .pick (.t 43) (.t 47) (.c (.bool false)), none⟩,
  ⟨some 49, .mv (.t 48), none⟩,
  ⟨some 50, .mv (.t 3), some (49, true)⟩,
  ⟨some 51, .slc none 1 (.t 50) (some (.c (.int .i64 12))) (some (.c (.int .i64 16))) none, some (49, true)⟩,
  ⟨some 52, .cstr (.t 51), some (49, true)⟩,
  ⟨some 53, .bin .eql [] (.t 52) (.c (.str ⟨#[71, 80, 83, 0]⟩)), some (49, true)⟩,
  ⟨some 54, .pick (.t 49) (.t 53) (.c (.bool false)), none⟩,
  ⟨some 0, .mv (.t 54), none⟩])
 (.ret)))),
 [.tmp 0], true⟩
/-- ephemeris/head.Parse -/
def M15 : MFunc := ⟨.seq (.reg [⟨some 2, .al (.vals [(.int .u8 0), (.int .u8 0), (.int .u8 0), (.int .u8 0), (.int .i8 0), (.int .i8 0), (.int .u32 0), (.int .u32 0), (.int .u32 0), (.int .u64 0), (.int .u64 0), (.int .u64 0), (.int .u64 0), .nils, (.bool false), (.int .u32 0), (.int .u64 0)]), none⟩,
  ⟨some 3, .mv (.c .nils), none⟩,
  ⟨some 4, .mv (.c (.int .i64 0)), none⟩])
 (.seq (.seq (.reg [⟨some 9, .mv (.t 0), none⟩,
  ⟨some 10, .len none (.t 9), none⟩,
  ⟨some 11, .bin .lss [] (.t 10) (.c (.int .i64 48)), none⟩])
 (.cond (.t 11)
 (.seq (.reg [⟨some 12, .bld [(.int .u8 0), (.int .u8 0), (.int .u8 0), (.int .u8 0), (.int .i8 0), (.int .i8 0), (.int .u32 0), (.int .u32 0), (.int .u32 0), (.int .u64 0), (.int .u64 0), (.int .u64 0), (.int .u64 0), .nils, (.bool false), (.int .u32 0), (.int .u64 0)] [], none⟩,
  ⟨none, .st 17 (.t 2) (.t 12), none⟩,
  ⟨some 3, .mv (.c .nils), none⟩,
  ⟨some 4, .mv (.c (.int .i64 4)), none⟩])
 (.ret))
 (.skip)))
 (.seq (.reg [⟨some 14, .slc (some 11) 1 (.g 0) none none none, none⟩,
  ⟨some 15, .mv (.t 0), none⟩,
  ⟨some 16, .call 21 [(.t 14), (.t 15)], none⟩,
  ⟨some 13, .mv (.t 16), none⟩,
  ⟨some 17, .ex 0 (.t 13), none⟩,
  ⟨some 18, .ex 1 (.t 13), none⟩,
  ⟨some 19, .ex 2 (.t 13), none⟩,
  ⟨some 5, .mv (.t 17), none⟩,
  ⟨some 6, .mv (.t 18), none⟩,
  ⟨some 7, .mv (.t 19), none⟩])
 (.seq (.seq (.reg [⟨some 20, .mv (.t 7), none⟩,
  ⟨some 21, .bin .neq [] (.t 20) (.c (.int .i64 0)), none⟩])
 (.cond (.t 21)
 (.seq (.reg [⟨some 22, .bld [(.int .u8 0), (.int .u8 0), (.int .u8 0), (.int .u8 0), (.int .i8 0), (.int .i8 0), (.int .u32 0), (.int .u32 0), (.int .u32 0), (.int .u64 0), (.int .u64 0), (.int .u64 0), (.int .u64 0), .nils, (.bool false), (.int .u32 0), (.int .u64 0)] [], none⟩,
  ⟨some 23, .mv (.t 7), none⟩,
  ⟨none, .st 17 (.t 2) (.t 22), none⟩,
  ⟨some 3, .mv (.c .nils), none⟩,
  ⟨some 4, .mv (.t 23), none⟩])
 (.ret))
 (.skip)))
 (.seq (.regd [(0, ⟨some 24, .mv (.t 5), none⟩),
  (1, ⟨some 25, .ia none 1 (.t 24) (.c (.int .i64 0)), none⟩),
  (2, ⟨some 26, .ld none (.t 25), none⟩),
  (3, ⟨some 27, .bin .shr [] (.t 26) (.c (.int .u64 6)), none⟩),
  (4, ⟨some 28, .ci .u8 (.t 27), none⟩),
  (5, ⟨some 29, .mv (.t 5), none⟩),
  (6, ⟨some 30, .ia none 1 (.t 29) (.c (.int .i64 0)), none⟩),
  (7, ⟨some 31, .ld none (.t 30), none⟩),
  (8, ⟨some 32, .bin .shr [] (.t 31) (.c (.int .u64 3)), none⟩),
  (9, ⟨some 33, .bin .and [] (.t 32) (.c (.int .u64 7)), none⟩),
  (10, ⟨some 34, .ci .u8 (.t 33), none⟩),
  (11, ⟨some 35, .mv (.t 5), none⟩),
  (12, ⟨some 36, .ia none 1 (.t 35) (.c (.int .i64 0)), none⟩),
  (13, ⟨some 37, .ld none (.t 36), none⟩),
  (14, ⟨some 38, .bin .and [] (.t 37) (.c (.int .u64 7)), none⟩),
  (15, ⟨some 39, .ci .u8 (.t 38), none⟩),
  (16, ⟨some 40, .mv (.t 5), none⟩),
  (17, ⟨some 41, .ia none 1 (.t 40) (.c (.int .i64 1)), none⟩),
  (18, ⟨some 42, .ld none (.t 41), none⟩),
  (19, ⟨some 43, .ci .u8 (.t 42), none⟩),
  (20, ⟨some 44, .mv (.t 5), none⟩),
  (21, ⟨some 45, .ia none 1 (.t 44) (.c (.int .i64 2)), none⟩),
  (22, ⟨some 46, .ld none (.t 45), none⟩),
  (23, ⟨some 47, .ci .i8 (.t 46), none⟩),
  (24, ⟨some 48, .mv (.t 5), none⟩),
  (25, ⟨some 49, .ia none 1 (.t 48) (.c (.int .i64 3)), none⟩),
  (26, ⟨some 50, .ld none (.t 49), none⟩),
  (27, ⟨some 51, .ci .i8 (.t 50), none⟩),
  (28, ⟨some 52, .mv (.t 5), none⟩),
  (29, ⟨some 53, .ia none 1 (.t 52) (.c (.int .i64 4)), none⟩),
  (30, ⟨some 54, .ld none (.t 53), none⟩),
  (31, ⟨some 55, .ci .u32 (.t 54), none⟩),
  (32, ⟨some 56, .mv (.t 5), none⟩),
  (33, ⟨some 57, .ia none 1 (.t 56) (.c (.int .i64 5)), none⟩),
  (34, ⟨some 58, .ld none (.t 57), none⟩),
  (35, ⟨some 59, .ci .u32 (.t 58), none⟩),
  (36, ⟨some 60, .mv (.t 5), none⟩),
  (37, ⟨some 61, .ia none 1 (.t 60) (.c (.int .i64 6)), none⟩),
  (38, ⟨some 62, .ld none (.t 61), none⟩),
  (39, ⟨some 63, .ci .u32 (.t 62), none⟩),
  (40, ⟨some 64, .mv (.t 5), none⟩),
  (41, ⟨some 65, .ia none 1 (.t 64) (.c (.int .i64 7)), none⟩),
  (42, ⟨some 66, .ld none (.t 65), none⟩),
  (43, ⟨some 67, .mv (.t 5), none⟩),
  (44, ⟨some 68, .ia none 1 (.t 67) (.c (.int .i64 8)), none⟩),
  (45, ⟨some 69, .ld none (.t 68), none⟩),
  (46, ⟨some 70, .mv (.t 5), none⟩),
  (47, ⟨some 71, .ia none 1 (.t 70) (.c (.int .i64 9)), none⟩),
  (48, ⟨some 72, .ld none (.t 71), none⟩),
  (49, ⟨some 73, .mv (.t 5), none⟩),
  (50, ⟨some 74, .ia none 1 (.t 73) (.c (.int .i64 10)), none⟩),
  (51, ⟨some 75, .ld none (.t 74), none⟩),
  (52, ⟨some 76, .bld [(.int .u8 0), (.int .u8 0), (.int .u8 0), (.int .u8 0), (.int .i8 0), (.int .i8 0), (.int .u32 0), (.int .u32 0), (.int .u32 0), (.int .u64 0), (.int .u64 0), (.int .u64 0), (.int .u64 0), .nils, (.bool false), (.int .u32 0), (.int .u64 0)] [(0, 1, (.t 28)), (1, 1, (.t 34)), (2, 1, (.t 39)), (3, 1, (.t 43)), (4, 1, (.t 47)), (5, 1, (.t 51)), (6, 1, (.t 55)), (7, 1, (.t 59)), (8, 1, (.t 63)), (9, 1, (.t 66)), (10, 1, (.t 69)), (11, 1, (.t 72)), (12, 1, (.t 75))], none⟩),
  (53, ⟨some 8, .al (.vals [(.int .u8 0), (.int .u8 0), (.int .u8 0), (.int .u8 0), (.int .i8 0), (.int .i8 0), (.int .u32 0), (.int .u32 0), (.int .u32 0), (.int .u64 0), (.int .u64 0), (.int .u64 0), (.int .u64 0), .nils, (.bool false), (.int .u32 0), (.int .u64 0)]), none⟩),
  (54, ⟨none, .st 17 (.t 8) (.t 76), none⟩)] [])
 (.seq (.seq (.reg [⟨some 77, .ld (some 17) (.t 8), none⟩,
  ⟨some 78, .call 10 [(.t 77)], none⟩,
  ⟨some 79, .un .not (.t 78), none⟩])
 (.cond (.t 79)
 (.seq (.reg [⟨some 80, .bld [(.int .u8 0), (.int .u8 0), (.int .u8 0), (.int .u8 0), (.int .i8 0), (.int .i8 0), (.int .u32 0), (.int .u32 0), (.int .u32 0), (.int .u64 0), (.int .u64 0), (.int .u64 0), (.int .u64 0), .nils, (.bool false), (.int .u32 0), (.int .u64 0)] [], none⟩,
  ⟨none, .st 17 (.t 2) (.t 80), none⟩,
  ⟨some 3, .mv (.c .nils), none⟩,
  ⟨some 4, .mv (.c (.int .i64 5)), none⟩])
 (.ret))
 (.skip)))
 (.seq (.regd [(0, ⟨some 81, .ld (some 17) (.t 8), none⟩),
  (1, ⟨some 82, .mv (.t 6), none⟩),
  (2, ⟨some 83, .call 22 [(.t 82)], none⟩),
  (3, ⟨none, .st 17 (.t 2) (.t 81), none⟩),
  (4, ⟨some 3, .mv (.t 83), none⟩),
  (5, ⟨some 4, .mv (.c (.int .i64 0)), none⟩)] [(0, 2)])
 (.ret))))))),
 [.cell 2 (some 17), .tmp 3, .tmp 4], true⟩
/-- ephemeris/ephemerisref04.Parse -/
def M16 : MFunc := ⟨.seq (.reg [⟨some 2, .al (.vals [(.int .u8 0), (.int .u8 0), (.int .u8 0), (.int .u8 0), (.int .i8 0), (.int .i8 0), (.int .u32 0), (.int .u32 0), (.int .u32 0), (.int .u64 0), (.int .u64 0), (.int .u64 0), (.int .u64 0), .nils, (.bool false), (.int .u32 0), (.int .u64 0)]), none⟩,
  ⟨some 3, .mv (.c .nils), none⟩,
  ⟨some 4, .mv (.c (.int .i64 0)), none⟩])
 (.seq (.reg [⟨some 5, .al (.vals [(.int .u8 0), (.int .u8 0), (.int .u8 0), (.int .u8 0), (.int .i8 0), (.int .i8 0), (.int .u32 0), (.int .u32 0), (.int .u32 0), (.int .u64 0), (.int .u64 0), (.int .u64 0), (.int .u64 0), .nils, (.bool false), (.int .u32 0), (.int .u64 0)]), none⟩])
 (.seq (.seq (.reg [⟨some 8, .mv (.t 0), none⟩,
  ⟨some 9, .len none (.t 8), none⟩,
  ⟨some 10, .bin .lss [] (.t 9) (.c (.int .i64 48)), none⟩])
 (.cond (.t 10)
 (.seq (.reg [⟨some 11, .ld (some 17) (.t 5), none⟩,
  ⟨none, .st 17 (.t 2) (.t 11), none⟩,
  ⟨some 3, .mv (.c .nils), none⟩,
  ⟨some 4, .mv (.c (.int .i64 4)), none⟩])
 (.ret))
 (.skip)))
 (.seq (.reg [⟨some 12, .mv (.t 0), none⟩,
  ⟨some 13, .ia none 1 (.t 12) (.c (.int .i64 0)), none⟩,
  ⟨some 14, .ld none (.t 13), none⟩,
  ⟨some 15, .bin .quo [] (.t 14) (.c (.int .u8 8)), none⟩,
  ⟨some 16, .bin .rem [] (.t 15) (.c (.int .u8 8)), none⟩,
  ⟨some 6, .mv (.t 16), none⟩])
 (.seq (.seq (.reg [⟨some 17, .mv (.t 6), none⟩,
  ⟨some 18, .bin .eql [] (.t 17) (.c (.int .u8 0)), none⟩,
  ⟨some 19, .mv (.t 18), none⟩,
  ⟨some 20, .mv (.t 6), some (19, false)⟩,
  ⟨some 21, .bin .gtr [] (.t 20) (.c (.int .u8 4)), some (19, false)⟩,
  ⟨some 22, .pick (.t 19) (.c (.bool true)) (.t 21), none⟩])
 (.cond (.t 22)
 (.seq (.reg [⟨some 23, .ld (some 17) (.t 5), none⟩,
  ⟨none, .st 17 (.t 2) (.t 23), none⟩,
  ⟨some 3, .mv (.c .nils), none⟩,
  ⟨some 4, .mv (.c (.int .i64 5)), none⟩])
 (.ret))
 (.skip)))
 (.seq (.reg [⟨some 24, .mv (.t 0), none⟩,
  ⟨some 25, .ia none 1 (.t 24) (.c (.int .i64 0)), none⟩,
  ⟨some 26, .ld none (.t 25), none⟩,
  ⟨some 27, .bin .quo [] (.t 26) (.c (.int .u8 64)), none⟩,
  ⟨some 28, .fa 0 (.t 5), none⟩,
  ⟨none, .st 1 (.t 28) (.t 27), none⟩])
 (.seq (.reg [⟨some 29, .mv (.t 6), none⟩,
  ⟨some 30, .fa 1 (.t 5), none⟩,
  ⟨none, .st 1 (.t 30) (.t 29), none⟩])
 (.seq (.reg [⟨some 31, .mv (.t 0), none⟩,
  ⟨some 32, .ia none 1 (.t 31) (.c (.int .i64 0)), none⟩,
  ⟨some 33, .ld none (.t 32), none⟩,
  ⟨some 34, .bin .rem [] (.t 33) (.c (.int .u8 8)), none⟩,
  ⟨some 35, .fa 2 (.t 5), none⟩,
  ⟨none, .st 1 (.t 35) (.t 34), none⟩])
 (.seq (.reg [⟨some 36, .mv (.t 0), none⟩,
  ⟨some 37, .ia none 1 (.t 36) (.c (.int .i64 1)), none⟩,
  ⟨some 38, .ld none (.t 37), none⟩,
  ⟨some 39, .fa 3 (.t 5), none⟩,
  ⟨none, .st 1 (.t 39) (.t 38), none⟩])
 (.seq (.reg [⟨some 40, .mv (.t 0), none⟩,
  ⟨some 41, .ia none 1 (.t 40) (.c (.int .i64 2)), none⟩,
  ⟨some 42, .ld none (.t 41), none⟩,
  ⟨some 43, .ci .i8 (.t 42), none⟩,
  ⟨some 44, .fa 4 (.t 5), none⟩,
  ⟨none, .st 1 (.t 44) (.t 43), none⟩])
 (.seq (.reg [⟨some 45, .mv (.t 0), none⟩,
  ⟨some 46, .ia none 1 (.t 45) (.c (.int .i64 3)), none⟩,
  ⟨some 47, .ld none (.t 46), none⟩,
  ⟨some 48, .ci .i8 (.t 47), none⟩,
  ⟨some 49, .fa 5 (.t 5), none⟩,
  ⟨none, .st 1 (.t 49) (.t 48), none⟩])
 (.seq (.reg [⟨some 50, .mv (.t 0), none⟩,
  ⟨some 51, .call 23 [(.t 50), (.c (.int .i64 4)), (.c (.int .i64 4))], none⟩,
  ⟨some 52, .ci .u32 (.t 51), none⟩,
  ⟨some 53, .fa 6 (.t 5), none⟩,
  ⟨none, .st 1 (.t 53) (.t 52), none⟩])
 (.seq (.reg [⟨some 54, .mv (.t 0), none⟩,
  ⟨some 55, .call 23 [(.t 54), (.c (.int .i64 8)), (.c (.int .i64 4))], none⟩,
  ⟨some 56, .ci .u32 (.t 55), none⟩,
  ⟨some 57, .fa 7 (.t 5), none⟩,
  ⟨none, .st 1 (.t 57) (.t 56), none⟩])
 (.seq (.reg [⟨some 58, .mv (.t 0), none⟩,
  ⟨some 59, .call 23 [(.t 58), (.c (.int .i64 12)), (.c (.int .i64 4))], none⟩,
  ⟨some 60, .ci .u32 (.t 59), none⟩,
  ⟨some 61, .fa 8 (.t 5), none⟩,
  ⟨none, .st 1 (.t 61) (.t 60), none⟩])
 (.seq (.reg [⟨some 62, .mv (.t 0), none⟩,
  ⟨some 63, .call 23 [(.t 62), (.c (.int .i64 16)), (.c (.int .i64 8))], none⟩,
  ⟨some 64, .fa 9 (.t 5), none⟩,
  ⟨none, .st 1 (.t 64) (.t 63), none⟩])
 (.seq (.reg [⟨some 65, .mv (.t 0), none⟩,
  ⟨some 66, .call 23 [(.t 65), (.c (.int .i64 24)), (.c (.int .i64 8))], none⟩,
  ⟨some 67, .fa 10 (.t 5), none⟩,
  ⟨none, .st 1 (.t 67) (.t 66), none⟩])
 (.seq (.reg [⟨some 68, .mv (.t 0), none⟩,
  ⟨some 69, .call 23 [(.t 68), (.c (.int .i64 32)), (.c (.int .i64 8))], none⟩,
  ⟨some 70, .fa 11 (.t 5), none⟩,
  ⟨none, .st 1 (.t 70) (.t 69), none⟩])
 (.seq (.reg [⟨some 71, .mv (.t 0), none⟩,
  ⟨some 72, .call 23 [(.t 71), (.c (.int .i64 40)), (.c (.int .i64 8))], none⟩,
  ⟨some 73, .fa 12 (.t 5), none⟩,
  ⟨none, .st 1 (.t 73) (.t 72), none⟩])
 (.seq (.reg [⟨some 7, .mv (.c .nils), none⟩])
 (.seq (.regd [(0, ⟨some 74, .ld (some 17) (.t 5), none⟩),
  (1, ⟨some 75, .mv (.t 7), none⟩),
  (2, ⟨some 76, .mv (.t 0), none⟩),
  (3, ⟨some 77, .slc none 1 (.t 76) (some (.c (.int .i64 48))) none none, none⟩),
  (4, ⟨some 78, .app (.ints .u8 [0]) 1 (.t 75) (.t 77), none⟩),
  (5, ⟨none, .st 17 (.t 2) (.t 74), none⟩),
  (6, ⟨some 3, .mv (.t 78), none⟩),
  (7, ⟨some 4, .mv (.c (.int .i64 0)), none⟩)] [(0, 4)])
 (.ret)))))))))))))))))))),
 [.cell 2 (some 17), .tmp 3, .tmp 4], true⟩
/-- ephemeris/octet.Lay -/
def M17 : MFunc := ⟨.seq (.reg [⟨some 3, .bx none 1 (.t 1), none⟩,
  ⟨some 4, .mv (.c .nils), none⟩,
  ⟨some 5, .mv (.c (.int .i64 0)), none⟩])
 (.seq (.reg [⟨some 10, .mv (.t 0), none⟩,
  ⟨some 11, .call 24 [(.t 10)], none⟩,
  ⟨some 9, .mv (.t 11), none⟩,
  ⟨some 12, .ex 0 (.t 9), none⟩,
  ⟨some 13, .ex 1 (.t 9), none⟩,
  ⟨some 7, .al (.ints .i64 [0]), none⟩,
  ⟨some 6, .mv (.t 12), none⟩,
  ⟨none, .st 1 (.t 7) (.t 13), none⟩])
 (.seq (.seq (.reg [⟨some 14, .ld none (.t 7), none⟩,
  ⟨some 15, .bin .neq [] (.t 14) (.c (.int .i64 0)), none⟩,
  ⟨some 16, .mv (.t 15), none⟩,
  ⟨some 17, .mv (.t 0), some (16, false)⟩,
  ⟨some 18, .len none (.t 17), some (16, false)⟩,
  ⟨some 19, .ld none (.t 3), some (16, false)⟩,
  ⟨some 20, .len none (.t 19), some (16, false)⟩,
  ⟨some 21, .bin .neq [] (.t 18) (.t 20), some (16, false)⟩,
  ⟨some 22, .pick (.t 16) (.c (.bool true)) (.t 21), none⟩])
 (.cond (.t 22)
 (.seq (.reg [⟨some 4, .mv (.c .nils), none⟩,
  ⟨some 5, .mv (.c (.int .i64 1)), none⟩])
 (.ret))
 (.skip)))
 (.seq (.reg [⟨some 23, .mv (.t 6), none⟩,
  ⟨some 24, .mks (.ints .u8 [0]) 1 (.t 23) (.t 23), none⟩,
  ⟨some 8, .mv (.t 24), none⟩])
 (.seq (.reg [⟨some 25, .mv (.t 0), none⟩,
  ⟨some 26, .mv (.t 8), none⟩,
  ⟨some 27, .mf 26 [(.t 3), (.t 7)], none⟩,
  ⟨some 28, .call 25 [(.t 25), (.t 26), (.t 27)], none⟩])
 (.seq (.seq (.reg [⟨some 29, .ld none (.t 7), none⟩,
  ⟨some 30, .bin .neq [] (.t 29) (.c (.int .i64 0)), none⟩])
 (.cond (.t 30)
 (.seq (.regd [(0, ⟨some 31, .ld none (.t 7), none⟩),
  (1, ⟨some 4, .mv (.c .nils), none⟩),
  (2, ⟨some 5, .mv (.t 31), none⟩)] [])
 (.ret))
 (.skip)))
 (.seq (.reg [⟨some 32, .mv (.t 8), none⟩,
  ⟨some 4, .mv (.t 32), none⟩,
  ⟨some 5, .mv (.c (.int .i64 0)), none⟩])
 (.ret))))))),
 [.tmp 4, .tmp 5], true⟩
/-- ephemeris/ephemerisref04.lay -/
def M18 : MFunc := ⟨.seq (.reg [⟨some 6, .mv (.c .nils), none⟩])
 (.seq (.reg [⟨some 7, .mv (.c .nils), none⟩])
 (.seq (.seq (.reg [⟨some 8, .mv (.c (.int .i64 0)), none⟩])
 (.block 0 [0, 2, 7]
 (.loop [0, 1, 2, 7, 8]
 (.seq (.seq (.reg [⟨some 10, .mv (.t 8), none⟩,
  ⟨some 11, .mv (.t 2), none⟩,
  ⟨some 12, .bin .lss [] (.t 10) (.t 11), none⟩])
 (.cond (.t 12)
 (.skip)
 (.exit 0)))
 (.seq (.block 1 [0, 1, 2, 7, 8]
 (.seq (.reg [⟨some 15, .mv (.t 7), none⟩,
  ⟨some 16, .mv (.t 1), none⟩,
  ⟨some 17, .bin .rem [] (.t 16) (.c (.int .u64 256)), none⟩,
  ⟨some 18, .ci .u8 (.t 17), none⟩,
  ⟨some 19, .bsl (.ints .u8 [0]) 1 1 [(0, 1, (.t 18))], none⟩,
  ⟨some 20, .app (.ints .u8 [0]) 1 (.t 15) (.t 19), none⟩,
  ⟨some 7, .mv (.t 20), none⟩])
 (.reg [⟨some 21, .mv (.t 1), none⟩,
  ⟨some 22, .bin .quo [] (.t 21) (.c (.int .u64 256)), none⟩,
  ⟨some 1, .mv (.t 22), none⟩])))
 (.reg [⟨some 13, .mv (.t 8), none⟩,
  ⟨some 14, .bin .add [] (.t 13) (.c (.int .i64 1)), none⟩,
  ⟨some 8, .mv (.t 14), none⟩]))))))
 (.seq (.seq (.reg [⟨some 23, .mv (.t 2), none⟩,
  ⟨some 24, .bin .sub [] (.t 23) (.c (.int .i64 1)), none⟩,
  ⟨some 9, .mv (.t 24), none⟩])
 (.block 2 [0]
 (.loop [0, 7, 9]
 (.seq (.seq (.reg [⟨some 25, .mv (.t 9), none⟩,
  ⟨some 26, .bin .geq [] (.t 25) (.c (.int .i64 0)), none⟩])
 (.cond (.t 26)
 (.skip)
 (.exit 2)))
 (.seq (.block 3 [0, 7, 9]
 (.reg [⟨some 29, .mv (.t 0), none⟩,
  ⟨some 30, .mv (.t 7), none⟩,
  ⟨some 31, .mv (.t 9), none⟩,
  ⟨some 32, .ia none 1 (.t 30) (.t 31), none⟩,
  ⟨some 33, .ld none (.t 32), none⟩,
  ⟨some 34, .bsl (.ints .u8 [0]) 1 1 [(0, 1, (.t 33))], none⟩,
  ⟨some 35, .app (.ints .u8 [0]) 1 (.t 29) (.t 34), none⟩,
  ⟨some 0, .mv (.t 35), none⟩]))
 (.reg [⟨some 27, .mv (.t 9), none⟩,
  ⟨some 28, .bin .sub [] (.t 27) (.c (.int .i64 1)), none⟩,
  ⟨some 9, .mv (.t 28), none⟩]))))))
 (.seq (.reg [⟨some 36, .mv (.t 0), none⟩,
  ⟨some 6, .mv (.t 36), none⟩])
 (.ret))))),
 [.tmp 6], true⟩
/-- ephemeris/ephemerisref04.signed -/
def M19 : MFunc := ⟨.seq (.reg [⟨some 2, .mv (.c (.int .u64 0)), none⟩])
 (.seq (.seq (.reg [⟨some 3, .mv (.t 0), none⟩,
  ⟨some 4, .bin .lss [] (.t 3) (.c (.int .i8 0)), none⟩])
 (.cond (.t 4)
 (.seq (.reg [⟨some 5, .mv (.t 0), none⟩,
  ⟨some 6, .ci .i64 (.t 5), none⟩,
  ⟨some 7, .bin .add [] (.c (.int .i64 256)) (.t 6), none⟩,
  ⟨some 8, .ci .u64 (.t 7), none⟩,
  ⟨some 2, .mv (.t 8), none⟩])
 (.ret))
 (.skip)))
 (.seq (.reg [⟨some 9, .mv (.t 0), none⟩,
  ⟨some 10, .ci .u64 (.t 9), none⟩,
  ⟨some 2, .mv (.t 10), none⟩])
 (.ret))),
 [.tmp 2], true⟩
/-- ephemeris/head.of -/
def M20 : MFunc := ⟨.seq (.reg [⟨some 1, .bx none 17 (.t 0), none⟩,
  ⟨some 2, .al (.vals [(.int .u8 0), (.int .u8 0), (.int .u8 0), (.int .u8 0), (.int .i8 0), (.int .i8 0), (.int .u32 0), (.int .u32 0), (.int .u32 0), (.int .u64 0), (.int .u64 0), (.int .u64 0), (.int .u64 0)]), none⟩])
 (.seq (.reg [⟨some 3, .fa 0 (.t 1), none⟩,
  ⟨some 4, .ld none (.t 3), none⟩,
  ⟨some 5, .fa 1 (.t 1), none⟩,
  ⟨some 6, .ld none (.t 5), none⟩,
  ⟨some 7, .fa 2 (.t 1), none⟩,
  ⟨some 8, .ld none (.t 7), none⟩,
  ⟨some 9, .fa 3 (.t 1), none⟩,
  ⟨some 10, .ld none (.t 9), none⟩,
  ⟨some 11, .fa 4 (.t 1), none⟩,
  ⟨some 12, .ld none (.t 11), none⟩,
  ⟨some 13, .fa 5 (.t 1), none⟩,
  ⟨some 14, .ld none (.t 13), none⟩,
  ⟨some 15, .fa 6 (.t 1), none⟩,
  ⟨some 16, .ld none (.t 15), none⟩,
  ⟨some 17, .fa 7 (.t 1), none⟩,
  ⟨some 18, .ld none (.t 17), none⟩,
  ⟨some 19, .fa 8 (.t 1), none⟩,
  ⟨some 20, .ld none (.t 19), none⟩,
  ⟨some 21, .fa 9 (.t 1), none⟩,
  ⟨some 22, .ld none (.t 21), none⟩,
  ⟨some 23, .fa 10 (.t 1), none⟩,
  ⟨some 24, .ld none (.t 23), none⟩,
  ⟨some 25, .fa 11 (.t 1), none⟩,
  ⟨some 26, .ld none (.t 25), none⟩,
  ⟨some 27, .fa 12 (.t 1), none⟩,
  ⟨some 28, .ld none (.t 27), none⟩,
  ⟨some 29, .bld [(.int .u8 0), (.int .u8 0), (.int .u8 0), (.int .u8 0), (.int .i8 0), (.int .i8 0), (.int .u32 0), (.int .u32 0), (.int .u32 0), (.int .u64 0), (.int .u64 0), (.int .u64 0), (.int .u64 0)] [(0, 1, (.t 4)), (1, 1, (.t 6)), (2, 1, (.t 8)), (3, 1, (.t 10)), (4, 1, (.t 12)), (5, 1, (.t 14)), (6, 1, (.t 16)), (7, 1, (.t 18)), (8, 1, (.t 20)), (9, 1, (.t 22)), (10, 1, (.t 24)), (11, 1, (.t 26)), (12, 1, (.t 28))], none⟩,
  ⟨none, .st 13 (.t 2) (.t 29), none⟩])
 (.ret)),
 [.cell 2 (some 13)], true⟩
/-- ephemeris/octet.Take -/
def M21 : MFunc := ⟨.seq (.reg [⟨some 4, .mv (.c .nils), none⟩,
  ⟨some 5, .mv (.c .nils), none⟩,
  ⟨some 6, .mv (.c (.int .i64 0)), none⟩])
 (.seq (.reg [⟨some 11, .mv (.t 0), none⟩,
  ⟨some 12, .call 24 [(.t 11)], none⟩,
  ⟨some 10, .mv (.t 12), none⟩,
  ⟨some 13, .ex 0 (.t 10), none⟩,
  ⟨some 14, .ex 1 (.t 10), none⟩,
  ⟨some 7, .mv (.t 13), none⟩,
  ⟨some 8, .mv (.t 14), none⟩])
 (.seq (.block 0 [0, 1, 7]
 (.seq (.reg [⟨some 16, .mv (.t 8), none⟩,
  ⟨some 17, .bin .neq [] (.t 16) (.c (.int .i64 0)), none⟩,
  ⟨some 15, .mv (.t 17), none⟩])
 (.cond (.t 15)
 (.seq (.reg [⟨some 18, .mv (.t 8), none⟩,
  ⟨some 4, .mv (.c .nils), none⟩,
  ⟨some 5, .mv (.c .nils), none⟩,
  ⟨some 6, .mv (.t 18), none⟩])
 (.ret))
 (.seq (.reg [⟨some 20, .mv (.t 7), none⟩,
  ⟨some 21, .mv (.t 1), none⟩,
  ⟨some 22, .len none (.t 21), none⟩,
  ⟨some 23, .bin .gtr [] (.t 20) (.t 22), none⟩,
  ⟨some 19, .mv (.t 23), none⟩])
 (.cond (.t 19)
 (.seq (.reg [⟨some 4, .mv (.c .nils), none⟩,
  ⟨some 5, .mv (.c .nils), none⟩,
  ⟨some 6, .mv (.c (.int .i64 4)), none⟩])
 (.ret))
 (.skip))))))
 (.seq (.reg [⟨some 9, .al (.vals [.nils]), none⟩])
 (.seq (.reg [⟨some 24, .mv (.t 0), none⟩,
  ⟨some 25, .mv (.t 1), none⟩,
  ⟨some 26, .mf 29 [(.t 9)], none⟩,
  ⟨some 27, .call 25 [(.t 24), (.t 25), (.t 26)], none⟩])
 (.seq (.regd [(0, ⟨some 28, .ld none (.t 9), none⟩),
  (1, ⟨some 29, .mv (.t 1), none⟩),
  (2, ⟨some 30, .mv (.t 7), none⟩),
  (3, ⟨some 31, .slc none 1 (.t 29) (some (.t 30)) none none, none⟩),
  (4, ⟨some 32, .call 22 [(.t 31)], none⟩),
  (5, ⟨some 4, .mv (.t 28), none⟩),
  (6, ⟨some 5, .mv (.t 32), none⟩),
  (7, ⟨some 6, .mv (.c (.int .i64 0)), none⟩)] [(0, 4)])
 (.ret)))))),
 [.tmp 4, .tmp 5, .tmp 6], true⟩
/-- slices.Clone[[]byte,byte] -/
def M22 : MFunc := ⟨.seq (.reg [⟨some 2, .mv (.c .nils), none⟩])
 (.seq (.seq (.reg [⟨some 3, .mv (.t 0), none⟩,
  ⟨some 4, .bin .eql [3] (.t 3) (.c .nils), none⟩])
 (.cond (.t 4)
 (.seq (.reg [⟨some 2, .mv (.c .nils), none⟩])
 (.ret))
 (.skip)))
 (.seq (.reg [⟨some 5, .bsl (.ints .u8 [0]) 0 1 [], none⟩,
  ⟨some 6, .mv (.t 0), none⟩,
  ⟨some 7, .app (.ints .u8 [0]) 1 (.t 5) (.t 6), none⟩,
  ⟨some 2, .mv (.t 7), none⟩])
 (.ret))),
 [.tmp 2], true⟩
/-- ephemeris/ephemerisref04.read -/
def M23 : MFunc := ⟨.seq (.reg [⟨some 6, .mv (.c (.int .u64 0)), none⟩])
 (.seq (.reg [⟨some 7, .mv (.c (.int .u64 0)), none⟩])
 (.seq (.seq (.reg [⟨some 8, .mv (.c (.int .i64 0)), none⟩])
 (.block 0 [7]
 (.loop [0, 1, 2, 7, 8]
 (.seq (.seq (.reg [⟨some 9, .mv (.t 8), none⟩,
  ⟨some 10, .mv (.t 2), none⟩,
  ⟨some 11, .bin .lss [] (.t 9) (.t 10), none⟩])
 (.cond (.t 11)
 (.skip)
 (.exit 0)))
 (.seq (.block 1 [0, 1, 2, 7, 8]
 (.reg [⟨some 14, .mv (.t 7), none⟩,
  ⟨some 15, .bin .mul [] (.t 14) (.c (.int .u64 256)), none⟩,
  ⟨some 16, .mv (.t 0), none⟩,
  ⟨some 17, .mv (.t 1), none⟩,
  ⟨some 18, .mv (.t 8), none⟩,
  ⟨some 19, .bin .add [] (.t 17) (.t 18), none⟩,
  ⟨some 20, .ia none 1 (.t 16) (.t 19), none⟩,
  ⟨some 21, .ld none (.t 20), none⟩,
  ⟨some 22, .ci .u64 (.t 21), none⟩,
  ⟨some 23, .bin .add [] (.t 15) (.t 22), none⟩,
  ⟨some 7, .mv (.t 23), none⟩]))
 (.reg [⟨some 12, .mv (.t 8), none⟩,
  ⟨some 13, .bin .add [] (.t 12) (.c (.int .i64 1)), none⟩,
  ⟨some 8, .mv (.t 13), none⟩]))))))
 (.seq (.reg [⟨some 24, .mv (.t 7), none⟩,
  ⟨some 6, .mv (.t 24), none⟩])
 (.ret)))),
 [.tmp 6], true⟩
/-- ephemeris/octet.Width -/
def M24 : MFunc := ⟨.seq (.reg [⟨some 2, .mv (.c (.int .i64 0)), none⟩,
  ⟨some 3, .mv (.c (.int .i64 0)), none⟩])
 (.seq (.seq (.reg [⟨some 7, .mv (.t 0), none⟩,
  ⟨some 8, .call 31 [(.t 7), (.f 32)], none⟩])
 (.cond (.t 8)
 (.seq (.reg [⟨some 2, .mv (.c (.int .i64 0)), none⟩,
  ⟨some 3, .mv (.c (.int .i64 1)), none⟩])
 (.ret))
 (.skip)))
 (.seq (.reg [⟨some 4, .mv (.c (.int .i64 0)), none⟩])
 (.seq (.seq (.reg [⟨some 9, .mv (.t 0), none⟩,
  ⟨some 10, .len none (.t 9), none⟩,
  ⟨some 11, .mv (.c (.int .i64 0)), none⟩])
 (.block 0 [4]
 (.loop [4, 9, 10, 11]
 (.seq (.reg [⟨some 12, .bin .lss [] (.t 11) (.t 10), none⟩])
 (.seq (.cond (.t 12)
 (.skip)
 (.exit 0))
 (.seq (.block 1 [4, 9, 10, 11]
 (.seq (.reg [⟨some 13, .ia none 1 (.t 9) (.t 11), none⟩,
  ⟨some 14, .ld none (.t 13), none⟩,
  ⟨some 6, .mv (.t 14), none⟩])
 (.reg [⟨some 15, .mv (.t 4), none⟩,
  ⟨some 16, .mv (.t 6), none⟩,
  ⟨some 17, .bin .add [] (.t 15) (.t 16), none⟩,
  ⟨some 4, .mv (.t 17), none⟩])))
 (.reg [⟨some 18, .bin .add [] (.t 11) (.c (.int .i64 1)), none⟩,
  ⟨some 11, .mv (.t 18), none⟩])))))))
 (.seq (.reg [⟨some 19, .mv (.t 4), none⟩,
  ⟨some 2, .mv (.t 19), none⟩,
  ⟨some 3, .mv (.c (.int .i64 0)), none⟩])
 (.ret))))),
 [.tmp 2, .tmp 3], true⟩
/-- ephemeris/octet.cut -/
def M25 : MFunc := ⟨.seq (.reg [⟨some 8, .mv (.t 0), none⟩,
  ⟨some 9, .len none (.t 8), none⟩,
  ⟨some 10, .mv (.c (.int .i64 0)), none⟩])
 (.block 0 []
 (.loop [1, 2, 8, 9, 10]
 (.seq (.reg [⟨some 11, .bin .lss [] (.t 10) (.t 9), none⟩])
 (.seq (.cond (.t 11)
 (.skip)
 (.exit 0))
 (.seq (.block 1 [1, 2, 8, 9, 10]
 (.seq (.reg [⟨some 12, .mv (.t 10), none⟩,
  ⟨some 13, .ia none 1 (.t 8) (.t 10), none⟩,
  ⟨some 14, .ld none (.t 13), none⟩,
  ⟨some 6, .mv (.t 12), none⟩,
  ⟨some 7, .mv (.t 14), none⟩])
 (.seq (.seq (.reg [⟨some 15, .mv (.t 2), none⟩,
  ⟨some 16, .mv (.t 6), none⟩,
  ⟨some 17, .mv (.t 1), none⟩,
  ⟨some 18, .mv (.t 7), none⟩,
  ⟨some 19, .mv (.t 7), none⟩,
  ⟨some 20, .slc none 1 (.t 17) none (some (.t 18)) (some (.t 19)), none⟩,
  ⟨some 21, .calld (.t 15) [(.t 16), (.t 20)], none⟩,
  ⟨some 22, .un .not (.t 21), none⟩])
 (.cond (.t 22)
 (.ret)
 (.skip)))
 (.reg [⟨some 23, .mv (.t 1), none⟩,
  ⟨some 24, .mv (.t 7), none⟩,
  ⟨some 25, .slc none 1 (.t 23) (some (.t 24)) none none, none⟩,
  ⟨some 1, .mv (.t 25), none⟩]))))
 (.reg [⟨some 26, .bin .add [] (.t 10) (.c (.int .i64 1)), none⟩,
  ⟨some 10, .mv (.t 26), none⟩])))))),
 [], true⟩
/-- ephemeris/octet.Lay_1 -/
def M26 : MFunc := ⟨.seq (.reg [⟨some 6, .mv (.c (.bool false)), none⟩])
 (.seq (.seq (.reg [⟨some 7, .ld none (.t 2), none⟩,
  ⟨some 8, .mv (.t 0), none⟩,
  ⟨some 9, .ia none 1 (.t 7) (.t 8), none⟩,
  ⟨some 10, .ld none (.t 9), none⟩,
  ⟨some 11, .mv (.t 1), none⟩,
  ⟨some 12, .len none (.t 11), none⟩,
  ⟨some 13, .call 27 [(.t 10), (.t 12)], none⟩,
  ⟨some 14, .un .not (.t 13), none⟩])
 (.cond (.t 14)
 (.seq (.reg [⟨none, .st 1 (.t 3) (.c (.int .i64 20)), none⟩])
 (.seq (.reg [⟨some 6, .mv (.c (.bool false)), none⟩])
 (.ret)))
 (.skip)))
 (.seq (.reg [⟨some 15, .mv (.t 1), none⟩,
  ⟨some 16, .ld none (.t 2), none⟩,
  ⟨some 17, .mv (.t 0), none⟩,
  ⟨some 18, .ia none 1 (.t 16) (.t 17), none⟩,
  ⟨some 19, .ld none (.t 18), none⟩,
  ⟨some 20, .call 28 [(.t 15), (.t 19)], none⟩])
 (.seq (.reg [⟨some 6, .mv (.c (.bool true)), none⟩])
 (.ret)))),
 [.tmp 6], true⟩
/-- ephemeris/octet.fits -/
def M27 : MFunc := ⟨.seq (.reg [⟨some 4, .mv (.c (.bool false)), none⟩])
 (.seq (.reg [⟨some 5, .mv (.t 1), none⟩,
  ⟨some 6, .bin .eql [] (.t 5) (.c (.int .i64 8)), none⟩,
  ⟨some 7, .mv (.t 6), none⟩,
  ⟨some 8, .mv (.t 0), some (7, false)⟩,
  ⟨some 9, .mv (.t 1), some (7, false)⟩,
  ⟨some 10, .bin .mul [] (.c (.int .i64 8)) (.t 9), some (7, false)⟩,
  ⟨some 11, .bin .shr [] (.t 8) (.t 10), some (7, false)⟩,
  ⟨some 12, .bin .eql [] (.t 11) (.c (.int .u64 0)), some (7, false)⟩,
  ⟨some 13, .pick (.t 7) (.c (.bool true)) (.t 12), none⟩,
  ⟨some 4, .mv (.t 13), none⟩])
 (.ret)),
 [.tmp 4], true⟩
/-- ephemeris/octet.Take_1 -/
def M29 : MFunc := ⟨.seq (.reg [⟨some 5, .mv (.c (.bool false)), none⟩])
 (.seq (.regd [(0, ⟨some 6, .ld none (.t 2), none⟩),
  (1, ⟨some 7, .mv (.t 1), none⟩),
  (2, ⟨some 8, .call 30 [(.t 7)], none⟩),
  (3, ⟨some 9, .bsl (.ints .u64 [0]) 1 1 [(0, 1, (.t 8))], none⟩),
  (4, ⟨some 10, .app (.ints .u64 [0]) 8 (.t 6) (.t 9), none⟩),
  (5, ⟨none, .st 1 (.t 2) (.t 10), none⟩)] [(0, 2)])
 (.seq (.reg [⟨some 5, .mv (.c (.bool true)), none⟩])
 (.ret))),
 [.tmp 5], true⟩
/-- slices.ContainsFunc[[]int,int] -/
def M31 : MFunc := ⟨.seq (.reg [⟨some 4, .mv (.c (.bool false)), none⟩])
 (.seq (.reg [⟨some 5, .mv (.t 0), none⟩,
  ⟨some 6, .mv (.t 1), none⟩,
  ⟨some 7, .call 35 [(.t 5), (.t 6)], none⟩,
  ⟨some 8, .bin .geq [] (.t 7) (.c (.int .i64 0)), none⟩,
  ⟨some 4, .mv (.t 8), none⟩])
 (.ret)),
 [.tmp 4], true⟩
/-- ephemeris/octet.Width_1 -/
def M32 : MFunc := ⟨.seq (.reg [⟨some 2, .mv (.c (.bool false)), none⟩])
 (.seq (.reg [⟨some 3, .mv (.t 0), none⟩,
  ⟨some 4, .call 33 [(.t 3)], none⟩,
  ⟨some 5, .un .not (.t 4), none⟩,
  ⟨some 2, .mv (.t 5), none⟩])
 (.ret)),
 [.tmp 2], true⟩
/-- ephemeris/octet.sized -/
def M33 : MFunc := ⟨.seq (.reg [⟨some 2, .mv (.c (.bool false)), none⟩])
 (.seq (.reg [⟨some 3, .mv (.t 0), none⟩,
  ⟨some 4, .bin .gtr [] (.t 3) (.c (.int .i64 0)), none⟩,
  ⟨some 5, .mv (.t 4), none⟩,
  ⟨some 6, .mv (.t 0), some (5, true)⟩,
  ⟨some 7, .bin .leq [] (.t 6) (.c (.int .i64 8)), some (5, true)⟩,
  ⟨some 8, .pick (.t 5) (.t 7) (.c (.bool false)), none⟩,
  ⟨some 2, .mv (.t 8), none⟩])
 (.ret)),
 [.tmp 2], true⟩
/-- ephemeris/octet.digits -/
def M34 : MFunc := ⟨.seq (.reg [⟨some 1, .bx (some .i64) 1 (.t 0), none⟩,
  ⟨some 2, .mv (.c .nilf), none⟩])
 (.seq (.reg [⟨some 3, .mf 36 [(.t 1)], none⟩,
  ⟨some 2, .mv (.t 3), none⟩])
 (.ret)),
 [.tmp 2], true⟩
/-- slices.IndexFunc[[]int,int] -/
def M35 : MFunc := ⟨.seq (.reg [⟨some 4, .mv (.c (.int .i64 0)), none⟩])
 (.seq (.seq (.reg [⟨some 6, .mv (.t 0), none⟩,
  ⟨some 7, .len none (.t 6), none⟩,
  ⟨some 8, .mv (.c (.int .i64 0)), none⟩])
 (.block 0 []
 (.loop [0, 1, 7, 8]
 (.seq (.reg [⟨some 9, .bin .lss [] (.t 8) (.t 7), none⟩])
 (.seq (.cond (.t 9)
 (.skip)
 (.exit 0))
 (.seq (.block 1 [0, 1, 7, 8]
 (.seq (.reg [⟨some 10, .mv (.t 8), none⟩,
  ⟨some 5, .mv (.t 10), none⟩])
 (.seq (.reg [⟨some 11, .mv (.t 1), none⟩,
  ⟨some 12, .mv (.t 0), none⟩,
  ⟨some 13, .mv (.t 5), none⟩,
  ⟨some 14, .ia none 1 (.t 12) (.t 13), none⟩,
  ⟨some 15, .ld none (.t 14), none⟩,
  ⟨some 16, .calld (.t 11) [(.t 15)], none⟩])
 (.cond (.t 16)
 (.seq (.reg [⟨some 17, .mv (.t 5), none⟩,
  ⟨some 4, .mv (.t 17), none⟩])
 (.ret))
 (.skip)))))
 (.reg [⟨some 18, .bin .add [] (.t 8) (.c (.int .i64 1)), none⟩,
  ⟨some 8, .mv (.t 18), none⟩])))))))
 (.seq (.reg [⟨some 4, .mv (.c (.int .i64 (-1))), none⟩])
 (.ret))),
 [.tmp 4], true⟩
/-- ephemeris/octet.digits_1 -/
def M36 : MFunc := ⟨.seq (.reg [⟨some 3, .mv (.c (.int .i64 0)), none⟩])
 (.block 0 []
 (.loop [0, 1, 3]
 (.seq (.seq (.reg [⟨some 4, .mv (.t 3), none⟩,
  ⟨some 5, .ld none (.t 1), none⟩,
  ⟨some 6, .bin .lss [] (.t 4) (.t 5), none⟩,
  ⟨some 7, .mv (.t 6), none⟩,
  ⟨some 8, .mv (.t 0), some (7, true)⟩,
  ⟨some 9, .mv (.t 3), some (7, true)⟩,
  ⟨some 10, .ld none (.t 1), some (7, true)⟩,
  ⟨some 11, .bin .sub [] (.t 10) (.c (.int .i64 1)), some (7, true)⟩,
  ⟨some 12, .mv (.t 3), some (7, true)⟩,
  ⟨some 13, .bin .sub [] (.t 11) (.t 12), some (7, true)⟩,
  ⟨some 14, .bin .mul [] (.c (.int .i64 8)) (.t 13), some (7, true)⟩,
  ⟨some 15, .calld (.t 8) [(.t 9), (.t 14)], some (7, true)⟩,
  ⟨some 16, .pick (.t 7) (.t 15) (.c (.bool false)), none⟩])
 (.cond (.t 16)
 (.skip)
 (.exit 0)))
 (.block 1 [0, 1, 3]
 (.reg [⟨some 17, .mv (.t 3), none⟩,
  ⟨some 18, .bin .add [] (.t 17) (.c (.int .i64 1)), none⟩,
  ⟨some 3, .mv (.t 18), none⟩]))))),
 [], true⟩
/-- gosem.cut.vars -/
def M57 : MFunc := ⟨.reg [⟨some 0, .bld [(.int .i64 0), (.int .i64 0), (.int .i64 0), (.int .i64 0), (.int .i64 0), (.int .i64 0), (.int .i64 0), (.int .i64 0), (.int .i64 0), (.int .i64 0), (.int .i64 0)] [(0, 1, (.c (.int .i64 1))), (1, 1, (.c (.int .i64 1))), (2, 1, (.c (.int .i64 1))), (3, 1, (.c (.int .i64 1))), (4, 1, (.c (.int .i64 4))), (5, 1, (.c (.int .i64 4))), (6, 1, (.c (.int .i64 4))), (7, 1, (.c (.int .i64 8))), (8, 1, (.c (.int .i64 8))), (9, 1, (.c (.int .i64 8))), (10, 1, (.c (.int .i64 8)))], none⟩,
  ⟨none, .st 11 (.g 0) (.t 0), none⟩],
 [], true⟩
def MPL : List (Nat × MFunc) := [(2, M2), (3, M3), (4, M4), (5, M5), (6, M6), (7, M7), (8, M8), (9, M9), (10, M10), (11, M11), (12, M12), (13, M13), (14, M14), (15, M15), (16, M16), (17, M17), (18, M18), (19, M19), (20, M20), (21, M21), (22, M22), (23, M23), (24, M24), (25, M25), (26, M26), (27, M27), (29, M29), (31, M31), (32, M32), (33, M33), (34, M34), (35, M35), (36, M36), (57, M57)]
def MP (f : Nat) : Option MFunc := MPL.lookup f
def GL : List Nat := [0]
noncomputable def X : Ctx := ⟨Go.Proofs.Tryd.prog, 1, fun i => GL.getD i 0⟩
end Go.Proofs.YtpmibaeajmfdpaaDoorW.AI.H
