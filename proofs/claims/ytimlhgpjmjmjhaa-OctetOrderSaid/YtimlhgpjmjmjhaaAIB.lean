import Derived.Test.YtimlhgpjmjmjhaaAISem17
import Derived.Test.YtimlhgpjmjmjhaaProg
namespace Go.Proofs.YtimlhgpjmjmjhaaW.AI.B
open Go Go.Proofs.YtimlhgpjmjmjhaaW.AI
/-- gosem.cut.init -/
def M2 : MFunc := ⟨.reg [⟨some 0, .call 1 [], none⟩],
 [], true⟩
/-- ephemeris/ephemerislaw17.PollDemand -/
def M3 : MFunc := ⟨.seq (.reg [⟨some 3, .bx (some .i64) 3 (.t 0), none⟩,
  ⟨some 6, .mv (.c (.bool false)), none⟩])
 (.seq (.reg [⟨some 22, .mv (.t 2), none⟩,
  ⟨some 23, .mv (.t 2), none⟩,
  ⟨some 24, .len none (.t 23), none⟩,
  ⟨some 25, .mnx false [(.t 24), (.c (.int .i64 60))], none⟩,
  ⟨some 26, .slc none 3 (.t 22) none (some (.t 25)) none, none⟩,
  ⟨some 2, .mv (.t 26), none⟩])
 (.seq (.regd [(0, ⟨some 27, .mv (.t 2), none⟩),
  (1, ⟨some 28, .mv (.t 2), none⟩),
  (2, ⟨some 29, .len none (.t 28), none⟩),
  (3, ⟨some 30, .bin .quo [] (.t 29) (.c (.int .i64 2)), none⟩),
  (4, ⟨some 31, .slc none 3 (.t 27) none (some (.t 30)) none, none⟩),
  (5, ⟨some 32, .mv (.t 2), none⟩),
  (6, ⟨some 33, .mv (.t 2), none⟩),
  (7, ⟨some 34, .len none (.t 33), none⟩),
  (8, ⟨some 35, .bin .quo [] (.t 34) (.c (.int .i64 2)), none⟩),
  (9, ⟨some 36, .slc none 3 (.t 32) (some (.t 35)) none none, none⟩),
  (10, ⟨some 7, .mv (.t 31), none⟩),
  (11, ⟨some 8, .mv (.t 36), none⟩)] [])
 (.seq (.reg [⟨some 37, .fa 0 (.t 3), none⟩,
  ⟨some 38, .ld none (.t 37), none⟩,
  ⟨some 39, .ci .u64 (.t 38), none⟩,
  ⟨some 40, .bin .rem [] (.t 39) (.c (.int .u64 7)), none⟩,
  ⟨some 41, .ci .i64 (.t 40), none⟩,
  ⟨some 42, .bin .add [] (.c (.int .i64 4)) (.t 41), none⟩,
  ⟨some 9, .mv (.t 42), none⟩])
 (.seq (.reg [⟨some 43, .mv (.t 9), none⟩,
  ⟨some 44, .fa 1 (.t 3), none⟩,
  ⟨some 45, .ld none (.t 44), none⟩,
  ⟨some 46, .ci .u64 (.t 45), none⟩,
  ⟨some 47, .mv (.t 9), none⟩,
  ⟨some 48, .bin .sub [] (.c (.int .i64 11)) (.t 47), none⟩,
  ⟨some 49, .ci .u64 (.t 48), none⟩,
  ⟨some 50, .bin .rem [] (.t 46) (.t 49), none⟩,
  ⟨some 51, .ci .i64 (.t 50), none⟩,
  ⟨some 52, .bin .add [] (.t 43) (.t 51), none⟩,
  ⟨some 10, .mv (.t 52), none⟩])
 (.seq (.reg [⟨some 54, .mv (.t 9), none⟩,
  ⟨some 55, .mv (.t 10), none⟩,
  ⟨some 56, .call 15 [(.t 54), (.t 55), (.c (.int .i64 0))], none⟩,
  ⟨some 53, .mv (.t 56), none⟩,
  ⟨some 57, .ex 0 (.t 53), none⟩,
  ⟨some 58, .ex 1 (.t 53), none⟩,
  ⟨some 11, .al (.vals [.nilp]), none⟩,
  ⟨none, .st 1 (.t 11) (.t 57), none⟩,
  ⟨some 12, .mv (.t 58), none⟩])
 (.seq (.seq (.reg [⟨some 59, .call 16 [], none⟩,
  ⟨some 60, .un .not (.t 59), none⟩,
  ⟨some 61, .mv (.t 60), none⟩,
  ⟨some 62, .mv (.t 12), some (61, false)⟩,
  ⟨some 63, .bin .neq [] (.t 62) (.c (.int .i64 0)), some (61, false)⟩,
  ⟨some 64, .pick (.t 61) (.c (.bool true)) (.t 63), none⟩])
 (.cond (.t 64)
 (.seq (.reg [⟨some 6, .mv (.c (.bool false)), none⟩])
 (.ret))
 (.skip)))
 (.seq (.reg [⟨some 13, .al (.ints .i64 [0]), none⟩,
  ⟨some 14, .al (.ints .i64 [0]), none⟩,
  ⟨none, .st 1 (.t 13) (.c (.int .i64 0)), none⟩,
  ⟨none, .st 1 (.t 14) (.c (.int .i64 (-1))), none⟩])
 (.seq (.reg [⟨some 65, .mf 17 [(.t 11), (.t 13), (.t 14)], none⟩,
  ⟨some 15, .mv (.t 65), none⟩])
 (.seq (.seq (.reg [⟨some 66, .mv (.t 7), none⟩,
  ⟨some 67, .len none (.t 66), none⟩,
  ⟨some 68, .mv (.c (.int .i64 0)), none⟩])
 (.block 0 [1, 8, 10, 11, 14, 15]
 (.loop [1, 8, 10, 11, 14, 15, 66, 67, 68]
 (.seq (.reg [⟨some 69, .bin .lss [] (.t 68) (.t 67), none⟩])
 (.seq (.cond (.t 69)
 (.skip)
 (.exit 0))
 (.seq (.block 1 [1, 8, 10, 11, 14, 15, 66, 67, 68]
 (.seq (.reg [⟨some 70, .ia none 3 (.t 66) (.t 68), none⟩,
  ⟨some 71, .ld (some 3) (.t 70), none⟩,
  ⟨some 17, .al (.ints .i64 [0, 0, 0]), none⟩,
  ⟨none, .st 3 (.t 17) (.t 71), none⟩])
 (.seq (.reg [⟨some 72, .mv (.t 15), none⟩,
  ⟨some 73, .ld (some 3) (.t 17), none⟩,
  ⟨some 74, .calld (.t 72) [(.t 73)], none⟩,
  ⟨some 75, .un .not (.t 74), none⟩])
 (.cond (.t 75)
 (.seq (.reg [⟨some 6, .mv (.c (.bool false)), none⟩])
 (.ret))
 (.skip)))))
 (.reg [⟨some 76, .bin .add [] (.t 68) (.c (.int .i64 1)), none⟩,
  ⟨some 68, .mv (.t 76), none⟩])))))))
 (.seq (.reg [⟨some 77, .mv (.t 1), none⟩,
  ⟨some 78, .bin .rem [] (.t 77) (.c (.int .u8 7)), none⟩,
  ⟨some 79, .ci .i64 (.t 78), none⟩,
  ⟨some 80, .bin .add [] (.c (.int .i64 4)) (.t 79), none⟩,
  ⟨some 18, .mv (.t 80), none⟩])
 (.seq (.seq (.reg [⟨some 81, .ld none (.t 11), none⟩,
  ⟨some 82, .mv (.t 18), none⟩,
  ⟨some 83, .call 24 [(.t 81), (.t 82)], none⟩,
  ⟨some 84, .bin .neq [] (.t 83) (.c (.int .i64 0)), none⟩,
  ⟨some 85, .mv (.t 84), none⟩,
  ⟨some 86, .ld none (.t 11), some (85, false)⟩,
  ⟨some 87, .call 22 [(.t 86)], some (85, false)⟩,
  ⟨some 88, .mv (.t 18), some (85, false)⟩,
  ⟨some 89, .bin .lss [] (.t 87) (.t 88), some (85, false)⟩,
  ⟨some 90, .pick (.t 85) (.c (.bool true)) (.t 89), none⟩,
  ⟨some 91, .mv (.t 90), none⟩,
  ⟨some 92, .ld none (.t 11), some (91, false)⟩,
  ⟨some 93, .call 23 [(.t 92)], some (91, false)⟩,
  ⟨some 94, .mv (.t 18), some (91, false)⟩,
  ⟨some 95, .bin .lss [] (.t 93) (.t 94), some (91, false)⟩,
  ⟨some 96, .pick (.t 91) (.c (.bool true)) (.t 95), none⟩])
 (.cond (.t 96)
 (.seq (.reg [⟨some 6, .mv (.c (.bool false)), none⟩])
 (.ret))
 (.skip)))
 (.seq (.seq (.reg [⟨some 97, .mv (.t 8), none⟩,
  ⟨some 98, .len none (.t 97), none⟩,
  ⟨some 99, .mv (.c (.int .i64 0)), none⟩])
 (.block 2 []
 (.loop [10, 11, 14, 15, 18, 97, 98, 99]
 (.seq (.reg [⟨some 100, .bin .lss [] (.t 99) (.t 98), none⟩])
 (.seq (.cond (.t 100)
 (.skip)
 (.exit 2))
 (.seq (.block 3 [10, 11, 14, 15, 18, 97, 98, 99]
 (.seq (.reg [⟨some 101, .ia none 3 (.t 97) (.t 99), none⟩,
  ⟨some 102, .ld (some 3) (.t 101), none⟩,
  ⟨some 20, .al (.ints .i64 [0, 0, 0]), none⟩,
  ⟨none, .st 3 (.t 20) (.t 102), none⟩])
 (.seq (.reg [⟨some 103, .ld none (.t 14), none⟩,
  ⟨some 21, .mv (.t 103), none⟩])
 (.seq (.seq (.reg [⟨some 104, .mv (.t 15), none⟩,
  ⟨some 105, .ld (some 3) (.t 20), none⟩,
  ⟨some 106, .calld (.t 104) [(.t 105)], none⟩,
  ⟨some 107, .un .not (.t 106), none⟩,
  ⟨some 108, .mv (.t 107), none⟩,
  ⟨some 109, .ld none (.t 11), some (108, false)⟩,
  ⟨some 110, .call 22 [(.t 109)], some (108, false)⟩,
  ⟨some 111, .mv (.t 18), some (108, false)⟩,
  ⟨some 112, .bin .lss [] (.t 110) (.t 111), some (108, false)⟩,
  ⟨some 113, .pick (.t 108) (.c (.bool true)) (.t 112), none⟩,
  ⟨some 114, .mv (.t 113), none⟩,
  ⟨some 115, .ld none (.t 11), some (114, false)⟩,
  ⟨some 116, .call 22 [(.t 115)], some (114, false)⟩,
  ⟨some 117, .mv (.t 10), some (114, false)⟩,
  ⟨some 118, .mv (.t 18), some (114, false)⟩,
  ⟨some 119, .mnx true [(.t 117), (.t 118)], some (114, false)⟩,
  ⟨some 120, .bin .gtr [] (.t 116) (.t 119), some (114, false)⟩,
  ⟨some 121, .pick (.t 114) (.c (.bool true)) (.t 120), none⟩])
 (.cond (.t 121)
 (.seq (.reg [⟨some 6, .mv (.c (.bool false)), none⟩])
 (.ret))
 (.skip)))
 (.seq (.regd [(0, ⟨some 122, .mv (.t 21), none⟩),
  (1, ⟨some 123, .bin .geq [] (.t 122) (.c (.int .i64 0)), none⟩),
  (2, ⟨some 124, .mv (.t 123), none⟩),
  (3, ⟨some 125, .ld none (.t 14), some (124, true)⟩),
  (4, ⟨some 126, .mv (.t 21), some (124, true)⟩),
  (5, ⟨some 127, .bin .neq [] (.t 125) (.t 126), some (124, true)⟩),
  (6, ⟨some 128, .pick (.t 124) (.t 127) (.c (.bool false)), none⟩),
  (7, ⟨some 129, .mv (.t 128), none⟩),
  (8, ⟨some 130, .ld none (.t 14), some (129, true)⟩),
  (9, ⟨some 131, .mv (.t 21), some (129, true)⟩),
  (10, ⟨some 132, .bin .sub [] (.t 130) (.t 131), some (129, true)⟩),
  (11, ⟨some 133, .mv (.t 18), some (129, true)⟩),
  (12, ⟨some 134, .bin .shl [] (.c (.int .i64 1000000000)) (.t 133), some (129, true)⟩),
  (13, ⟨some 135, .bin .lss [] (.t 132) (.t 134), some (129, true)⟩),
  (14, ⟨some 136, .pick (.t 129) (.t 135) (.c (.bool false)), none⟩)] [])
 (.cond (.t 136)
 (.seq (.reg [⟨some 6, .mv (.c (.bool false)), none⟩])
 (.ret))
 (.skip)))))))
 (.reg [⟨some 137, .bin .add [] (.t 99) (.c (.int .i64 1)), none⟩,
  ⟨some 99, .mv (.t 137), none⟩])))))))
 (.seq (.reg [⟨some 6, .mv (.c (.bool true)), none⟩])
 (.ret)))))))))))))),
 [.tmp 6], true⟩
/-- ephemeris/ephemerislaw17.PollSilent -/
def M4 : MFunc := ⟨.seq (.reg [⟨some 2, .bx (some .i64) 3 (.t 0), none⟩,
  ⟨some 4, .mv (.c (.bool false)), none⟩])
 (.seq (.reg [⟨some 18, .fa 0 (.t 2), none⟩,
  ⟨some 19, .ld none (.t 18), none⟩,
  ⟨some 20, .ci .u64 (.t 19), none⟩,
  ⟨some 21, .bin .rem [] (.t 20) (.c (.int .u64 7)), none⟩,
  ⟨some 22, .ci .i64 (.t 21), none⟩,
  ⟨some 23, .bin .add [] (.c (.int .i64 4)) (.t 22), none⟩,
  ⟨some 5, .mv (.t 23), none⟩])
 (.seq (.reg [⟨some 24, .mv (.t 5), none⟩,
  ⟨some 25, .fa 1 (.t 2), none⟩,
  ⟨some 26, .ld none (.t 25), none⟩,
  ⟨some 27, .ci .u64 (.t 26), none⟩,
  ⟨some 28, .mv (.t 5), none⟩,
  ⟨some 29, .bin .sub [] (.c (.int .i64 11)) (.t 28), none⟩,
  ⟨some 30, .ci .u64 (.t 29), none⟩,
  ⟨some 31, .bin .rem [] (.t 27) (.t 30), none⟩,
  ⟨some 32, .ci .i64 (.t 31), none⟩,
  ⟨some 33, .bin .add [] (.t 24) (.t 32), none⟩,
  ⟨some 6, .mv (.t 33), none⟩])
 (.seq (.reg [⟨some 35, .mv (.t 5), none⟩,
  ⟨some 36, .mv (.t 6), none⟩,
  ⟨some 37, .call 15 [(.t 35), (.t 36), (.c (.int .i64 0))], none⟩,
  ⟨some 34, .mv (.t 37), none⟩,
  ⟨some 38, .ex 0 (.t 34), none⟩,
  ⟨some 39, .ex 1 (.t 34), none⟩,
  ⟨some 7, .mv (.t 38), none⟩,
  ⟨some 8, .mv (.t 39), none⟩])
 (.seq (.seq (.reg [⟨some 40, .call 16 [], none⟩,
  ⟨some 41, .un .not (.t 40), none⟩,
  ⟨some 42, .mv (.t 41), none⟩,
  ⟨some 43, .mv (.t 8), some (42, false)⟩,
  ⟨some 44, .bin .neq [] (.t 43) (.c (.int .i64 0)), some (42, false)⟩,
  ⟨some 45, .pick (.t 42) (.c (.bool true)) (.t 44), none⟩])
 (.cond (.t 45)
 (.seq (.reg [⟨some 4, .mv (.c (.bool false)), none⟩])
 (.ret))
 (.skip)))
 (.seq (.reg [⟨some 46, .mv (.t 1), none⟩,
  ⟨some 47, .ci .i64 (.t 46), none⟩,
  ⟨some 48, .bin .rem [] (.t 47) (.c (.int .i64 201)), none⟩,
  ⟨some 9, .mv (.t 48), none⟩])
 (.seq (.seq (.reg [⟨some 49, .mv (.t 9), none⟩,
  ⟨some 50, .mv (.c (.int .i64 0)), none⟩])
 (.block 0 [5, 7, 9]
 (.loop [5, 6, 7, 9, 49, 50]
 (.seq (.reg [⟨some 51, .bin .lss [] (.t 50) (.t 49), none⟩])
 (.seq (.cond (.t 51)
 (.skip)
 (.exit 0))
 (.seq (.block 1 [5, 6, 7, 9, 49, 50]
 (.seq (.reg [⟨some 52, .mv (.t 50), none⟩,
  ⟨some 10, .mv (.t 52), none⟩])
 (.seq (.reg [⟨some 54, .mv (.t 7), none⟩,
  ⟨some 55, .call 19 [(.t 54)], none⟩,
  ⟨some 53, .mv (.t 55), none⟩,
  ⟨some 56, .ex 0 (.t 53), none⟩,
  ⟨some 57, .ex 1 (.t 53), none⟩,
  ⟨some 11, .mv (.t 56), none⟩,
  ⟨some 12, .mv (.t 57), none⟩])
 (.seq (.reg [⟨some 58, .mv (.t 12), none⟩,
  ⟨some 59, .un .not (.t 58), none⟩,
  ⟨some 60, .mv (.t 59), none⟩,
  ⟨some 61, .mv (.t 7), some (60, false)⟩,
  ⟨some 62, .mv (.t 11), some (60, false)⟩,
  ⟨some 63, .call 21 [(.t 61), (.t 62)], some (60, false)⟩,
  ⟨some 64, .bin .neq [] (.t 63) (.c (.int .i64 0)), some (60, false)⟩,
  ⟨some 65, .pick (.t 60) (.c (.bool true)) (.t 64), none⟩,
  ⟨some 66, .mv (.t 65), none⟩,
  ⟨some 67, .mv (.t 7), some (66, false)⟩,
  ⟨some 68, .call 18 [(.t 67), (.c (.bool true))], some (66, false)⟩,
  ⟨some 69, .bin .neq [] (.t 68) (.c (.int .i64 0)), some (66, false)⟩,
  ⟨some 70, .pick (.t 66) (.c (.bool true)) (.t 69), none⟩,
  ⟨some 71, .mv (.t 70), none⟩,
  ⟨some 72, .mv (.t 7), some (71, false)⟩,
  ⟨some 73, .call 22 [(.t 72)], some (71, false)⟩,
  ⟨some 74, .mv (.t 5), some (71, false)⟩,
  ⟨some 75, .mv (.t 10), some (71, false)⟩,
  ⟨some 76, .bin .add [] (.t 75) (.c (.int .i64 1)), some (71, false)⟩,
  ⟨some 77, .bin .quo [] (.t 76) (.c (.int .i64 8)), some (71, false)⟩,
  ⟨some 78, .bin .add [] (.t 74) (.t 77), some (71, false)⟩,
  ⟨some 79, .mv (.t 6), some (71, false)⟩,
  ⟨some 80, .mnx false [(.t 78), (.t 79)], some (71, false)⟩,
  ⟨some 81, .bin .neq [] (.t 73) (.t 80), some (71, false)⟩,
  ⟨some 82, .pick (.t 71) (.c (.bool true)) (.t 81), none⟩,
  ⟨some 83, .mv (.t 82), none⟩,
  ⟨some 84, .mv (.t 7), some (83, false)⟩,
  ⟨some 85, .call 25 [(.t 84)], some (83, false)⟩,
  ⟨some 86, .bin .and [] (.t 85) (.c (.int .u8 1)), some (83, false)⟩,
  ⟨some 87, .bin .eql [] (.t 86) (.c (.int .u8 0)), some (83, false)⟩,
  ⟨some 88, .pick (.t 83) (.c (.bool true)) (.t 87), none⟩])
 (.cond (.t 88)
 (.seq (.reg [⟨some 4, .mv (.c (.bool false)), none⟩])
 (.ret))
 (.skip))))))
 (.reg [⟨some 89, .bin .add [] (.t 50) (.c (.int .i64 1)), none⟩,
  ⟨some 50, .mv (.t 89), none⟩])))))))
 (.seq (.seq (.reg [⟨some 90, .mv (.c (.int .i64 0)), none⟩])
 (.block 2 [5, 7]
 (.loop [5, 7, 9, 90]
 (.seq (.reg [⟨some 91, .bin .lss [] (.t 90) (.c (.int .i64 12)), none⟩])
 (.seq (.cond (.t 91)
 (.skip)
 (.exit 2))
 (.seq (.block 3 [5, 7, 9, 90]
 (.seq (.reg [⟨some 92, .mv (.t 90), none⟩,
  ⟨some 13, .mv (.t 92), none⟩])
 (.seq (.reg [⟨some 94, .mv (.t 7), none⟩,
  ⟨some 95, .call 19 [(.t 94)], none⟩,
  ⟨some 93, .mv (.t 95), none⟩,
  ⟨some 96, .ex 0 (.t 93), none⟩,
  ⟨some 97, .ex 1 (.t 93), none⟩,
  ⟨some 14, .mv (.t 96), none⟩,
  ⟨some 15, .mv (.t 97), none⟩])
 (.seq (.seq (.reg [⟨some 98, .mv (.t 15), none⟩,
  ⟨some 99, .un .not (.t 98), none⟩,
  ⟨some 100, .mv (.t 99), none⟩,
  ⟨some 101, .mv (.t 7), some (100, false)⟩,
  ⟨some 102, .mv (.t 14), some (100, false)⟩,
  ⟨some 103, .call 21 [(.t 101), (.t 102)], some (100, false)⟩,
  ⟨some 104, .bin .neq [] (.t 103) (.c (.int .i64 0)), some (100, false)⟩,
  ⟨some 105, .pick (.t 100) (.c (.bool true)) (.t 104), none⟩])
 (.cond (.t 105)
 (.seq (.reg [⟨some 4, .mv (.c (.bool false)), none⟩])
 (.ret))
 (.skip)))
 (.seq (.reg [⟨some 107, .mv (.t 7), none⟩,
  ⟨some 108, .call 19 [(.t 107)], none⟩,
  ⟨some 106, .mv (.t 108), none⟩,
  ⟨some 109, .ex 0 (.t 106), none⟩,
  ⟨some 110, .ex 1 (.t 106), none⟩,
  ⟨some 16, .mv (.t 109), none⟩,
  ⟨some 17, .mv (.t 110), none⟩])
 (.seq (.reg [⟨some 111, .mv (.t 13), none⟩,
  ⟨some 112, .bin .geq [] (.t 111) (.c (.int .i64 3)), none⟩,
  ⟨some 113, .mv (.t 112), none⟩,
  ⟨some 114, .mv (.t 16), some (113, true)⟩,
  ⟨some 115, .mv (.t 14), some (113, true)⟩,
  ⟨some 116, .bin .sub [] (.t 114) (.t 115), some (113, true)⟩,
  ⟨some 117, .mv (.t 5), some (113, true)⟩,
  ⟨some 118, .bin .shl [] (.c (.int .i64 1000000000)) (.t 117), some (113, true)⟩,
  ⟨some 119, .bin .neq [] (.t 116) (.t 118), some (113, true)⟩,
  ⟨some 120, .pick (.t 113) (.t 119) (.c (.bool false)), none⟩,
  ⟨some 121, .mv (.t 120), none⟩,
  ⟨some 122, .mv (.t 13), some (121, false)⟩,
  ⟨some 123, .bin .geq [] (.t 122) (.c (.int .i64 8)), some (121, false)⟩,
  ⟨some 124, .mv (.t 123), some (121, false)⟩,
  ⟨some 125, .mv (.t 7), some (124, true)⟩,
  ⟨some 126, .call 25 [(.t 125)], some (124, true)⟩,
  ⟨some 127, .bin .neq [] (.t 126) (.c (.int .u8 0)), some (124, true)⟩,
  ⟨some 128, .pick (.t 124) (.t 127) (.c (.bool false)), some (121, false)⟩,
  ⟨some 129, .pick (.t 121) (.c (.bool true)) (.t 128), none⟩,
  ⟨some 130, .mv (.t 129), none⟩,
  ⟨some 131, .mv (.t 13), some (130, false)⟩,
  ⟨some 132, .bin .lss [] (.t 131) (.c (.int .i64 7)), some (130, false)⟩,
  ⟨some 133, .mv (.t 132), some (130, false)⟩,
  ⟨some 134, .mv (.t 9), some (133, true)⟩,
  ⟨some 135, .bin .geq [] (.t 134) (.c (.int .i64 8)), some (133, true)⟩,
  ⟨some 136, .pick (.t 133) (.t 135) (.c (.bool false)), some (130, false)⟩,
  ⟨some 137, .mv (.t 136), some (130, false)⟩,
  ⟨some 138, .mv (.t 7), some (137, true)⟩,
  ⟨some 139, .call 25 [(.t 138)], some (137, true)⟩,
  ⟨some 140, .bin .eql [] (.t 139) (.c (.int .u8 0)), some (137, true)⟩,
  ⟨some 141, .pick (.t 137) (.t 140) (.c (.bool false)), some (130, false)⟩,
  ⟨some 142, .pick (.t 130) (.c (.bool true)) (.t 141), none⟩])
 (.cond (.t 142)
 (.seq (.reg [⟨some 4, .mv (.c (.bool false)), none⟩])
 (.ret))
 (.skip))))))))
 (.reg [⟨some 143, .bin .add [] (.t 90) (.c (.int .i64 1)), none⟩,
  ⟨some 90, .mv (.t 143), none⟩])))))))
 (.seq (.reg [⟨some 144, .mv (.t 7), none⟩,
  ⟨some 145, .call 22 [(.t 144)], none⟩,
  ⟨some 146, .mv (.t 5), none⟩,
  ⟨some 147, .bin .eql [] (.t 145) (.t 146), none⟩,
  ⟨some 4, .mv (.t 147), none⟩])
 (.ret))))))))),
 [.tmp 4], true⟩
/-- ephemeris/ephemerislaw17.PollReach -/
def M5 : MFunc := ⟨.seq (.reg [⟨some 2, .mv (.c (.bool false)), none⟩])
 (.seq (.reg [⟨some 9, .call 15 [(.c (.int .i64 4)), (.c (.int .i64 4)), (.c (.int .i64 0))], none⟩,
  ⟨some 8, .mv (.t 9), none⟩,
  ⟨some 10, .ex 0 (.t 8), none⟩,
  ⟨some 11, .ex 1 (.t 8), none⟩,
  ⟨some 3, .mv (.t 10), none⟩,
  ⟨some 4, .mv (.t 11), none⟩])
 (.seq (.seq (.reg [⟨some 12, .call 16 [], none⟩,
  ⟨some 13, .un .not (.t 12), none⟩,
  ⟨some 14, .mv (.t 13), none⟩,
  ⟨some 15, .mv (.t 4), some (14, false)⟩,
  ⟨some 16, .bin .neq [] (.t 15) (.c (.int .i64 0)), some (14, false)⟩,
  ⟨some 17, .pick (.t 14) (.c (.bool true)) (.t 16), none⟩])
 (.cond (.t 17)
 (.seq (.reg [⟨some 2, .mv (.c (.bool false)), none⟩])
 (.ret))
 (.skip)))
 (.seq (.reg [⟨some 5, .mv (.c (.int .u8 0)), none⟩])
 (.seq (.seq (.reg [⟨some 18, .mv (.t 0), none⟩,
  ⟨some 19, .len none (.t 18), none⟩,
  ⟨some 20, .mv (.c (.int .i64 0)), none⟩])
 (.block 0 []
 (.loop [3, 5, 18, 19, 20]
 (.seq (.reg [⟨some 21, .bin .lss [] (.t 20) (.t 19), none⟩])
 (.seq (.cond (.t 21)
 (.skip)
 (.exit 0))
 (.seq (.block 1 [3, 5, 18, 19, 20]
 (.seq (.reg [⟨some 22, .mv (.t 20), none⟩,
  ⟨some 23, .ia none 1 (.t 18) (.t 20), none⟩,
  ⟨some 24, .ld none (.t 23), none⟩,
  ⟨some 6, .mv (.t 22), none⟩,
  ⟨some 7, .mv (.t 24), none⟩])
 (.seq (.seq (.reg [⟨some 25, .mv (.t 6), none⟩,
  ⟨some 26, .bin .eql [] (.t 25) (.c (.int .i64 40)), none⟩])
 (.cond (.t 26)
 (.exit 0)
 (.skip)))
 (.seq (.seq (.reg [⟨some 27, .mv (.t 3), none⟩,
  ⟨some 28, .mv (.t 6), none⟩,
  ⟨some 29, .call 21 [(.t 27), (.t 28)], none⟩,
  ⟨some 30, .bin .neq [] (.t 29) (.c (.int .i64 0)), none⟩])
 (.cond (.t 30)
 (.seq (.reg [⟨some 2, .mv (.c (.bool false)), none⟩])
 (.ret))
 (.skip)))
 (.seq (.reg [⟨some 31, .mv (.t 5), none⟩,
  ⟨some 32, .bin .shl [] (.t 31) (.c (.int .u64 1)), none⟩,
  ⟨some 5, .mv (.t 32), none⟩])
 (.seq (.seq (.reg [⟨some 33, .mv (.t 3), none⟩,
  ⟨some 34, .call 25 [(.t 33)], none⟩,
  ⟨some 35, .mv (.t 5), none⟩,
  ⟨some 36, .bin .neq [] (.t 34) (.t 35), none⟩])
 (.cond (.t 36)
 (.seq (.reg [⟨some 2, .mv (.c (.bool false)), none⟩])
 (.ret))
 (.skip)))
 (.seq (.seq (.reg [⟨some 37, .mv (.t 7), none⟩])
 (.cond (.t 37)
 (.seq (.reg [⟨some 38, .mv (.t 5), none⟩,
  ⟨some 39, .bin .or [] (.t 38) (.c (.int .u8 1)), none⟩,
  ⟨some 5, .mv (.t 39), none⟩])
 (.seq (.reg [⟨some 40, .mv (.t 3), none⟩,
  ⟨some 41, .mv (.t 6), none⟩,
  ⟨some 42, .bin .rem [] (.t 41) (.c (.int .i64 2)), none⟩,
  ⟨some 43, .bin .eql [] (.t 42) (.c (.int .i64 0)), none⟩,
  ⟨some 44, .call 18 [(.t 40), (.t 43)], none⟩,
  ⟨some 45, .bin .neq [] (.t 44) (.c (.int .i64 0)), none⟩])
 (.cond (.t 45)
 (.seq (.reg [⟨some 2, .mv (.c (.bool false)), none⟩])
 (.ret))
 (.skip))))
 (.skip)))
 (.seq (.reg [⟨some 46, .mv (.t 3), none⟩,
  ⟨some 47, .call 25 [(.t 46)], none⟩,
  ⟨some 48, .mv (.t 5), none⟩,
  ⟨some 49, .bin .neq [] (.t 47) (.t 48), none⟩])
 (.cond (.t 49)
 (.seq (.reg [⟨some 2, .mv (.c (.bool false)), none⟩])
 (.ret))
 (.skip))))))))))
 (.reg [⟨some 50, .bin .add [] (.t 20) (.c (.int .i64 1)), none⟩,
  ⟨some 20, .mv (.t 50), none⟩])))))))
 (.seq (.reg [⟨some 2, .mv (.c (.bool true)), none⟩])
 (.ret)))))),
 [.tmp 2], true⟩
/-- ephemeris/ephemerislaw17.PollPlays -/
def M6 : MFunc := ⟨.seq (.reg [⟨some 2, .bx (some .i64) 3 (.t 0), none⟩,
  ⟨some 4, .mv (.c (.bool false)), none⟩])
 (.seq (.reg [⟨some 18, .fa 0 (.t 2), none⟩,
  ⟨some 19, .ld none (.t 18), none⟩,
  ⟨some 20, .fa 1 (.t 2), none⟩,
  ⟨some 21, .ld none (.t 20), none⟩,
  ⟨some 22, .fa 2 (.t 2), none⟩,
  ⟨some 23, .ld none (.t 22), none⟩,
  ⟨some 24, .call 15 [(.t 19), (.t 21), (.t 23)], none⟩,
  ⟨some 17, .mv (.t 24), none⟩,
  ⟨some 25, .ex 0 (.t 17), none⟩,
  ⟨some 26, .ex 1 (.t 17), none⟩,
  ⟨some 5, .mv (.t 25), none⟩,
  ⟨some 6, .mv (.t 26), none⟩])
 (.seq (.reg [⟨some 28, .fa 0 (.t 2), none⟩,
  ⟨some 29, .ld none (.t 28), none⟩,
  ⟨some 30, .fa 1 (.t 2), none⟩,
  ⟨some 31, .ld none (.t 30), none⟩,
  ⟨some 32, .fa 2 (.t 2), none⟩,
  ⟨some 33, .ld none (.t 32), none⟩,
  ⟨some 34, .call 26 [(.t 29), (.t 31), (.t 33)], none⟩,
  ⟨some 27, .mv (.t 34), none⟩,
  ⟨some 35, .ex 0 (.t 27), none⟩,
  ⟨some 36, .ex 1 (.t 27), none⟩,
  ⟨some 7, .mv (.t 35), none⟩,
  ⟨some 8, .mv (.t 36), none⟩])
 (.seq (.seq (.reg [⟨some 37, .call 16 [], none⟩,
  ⟨some 38, .un .not (.t 37), none⟩,
  ⟨some 39, .mv (.t 38), none⟩,
  ⟨some 40, .mv (.t 6), some (39, false)⟩,
  ⟨some 41, .mv (.t 8), some (39, false)⟩,
  ⟨some 42, .bin .neq [] (.t 40) (.t 41), some (39, false)⟩,
  ⟨some 43, .pick (.t 39) (.c (.bool true)) (.t 42), none⟩,
  ⟨some 44, .mv (.t 43), none⟩,
  ⟨some 45, .mv (.t 5), some (44, false)⟩,
  ⟨some 46, .bin .eql [2] (.t 45) (.c .nilp), some (44, false)⟩,
  ⟨some 47, .mv (.t 7), some (44, false)⟩,
  ⟨some 48, .bin .eql [2] (.t 47) (.c .nilp), some (44, false)⟩,
  ⟨some 49, .bin .neq [1] (.t 46) (.t 48), some (44, false)⟩,
  ⟨some 50, .pick (.t 44) (.c (.bool true)) (.t 49), none⟩])
 (.cond (.t 50)
 (.seq (.reg [⟨some 4, .mv (.c (.bool false)), none⟩])
 (.ret))
 (.skip)))
 (.seq (.seq (.reg [⟨some 51, .mv (.t 7), none⟩,
  ⟨some 52, .bin .eql [2] (.t 51) (.c .nilp), none⟩])
 (.cond (.t 52)
 (.seq (.reg [⟨some 53, .mv (.t 5), none⟩,
  ⟨some 54, .call 18 [(.t 53), (.c (.bool true))], none⟩,
  ⟨some 55, .bin .eql [] (.t 54) (.c (.int .i64 2)), none⟩,
  ⟨some 56, .mv (.t 55), none⟩,
  ⟨some 57, .mv (.t 5), some (56, true)⟩,
  ⟨some 58, .call 20 [(.t 57), (.c (.int .i64 4611686018427387904))], some (56, true)⟩,
  ⟨some 59, .un .not (.t 58), some (56, true)⟩,
  ⟨some 60, .pick (.t 56) (.t 59) (.c (.bool false)), none⟩,
  ⟨some 4, .mv (.t 60), none⟩])
 (.ret))
 (.skip)))
 (.seq (.seq (.reg [⟨some 61, .mv (.t 1), none⟩,
  ⟨some 62, .len none (.t 61), none⟩,
  ⟨some 63, .mv (.c (.int .i64 0)), none⟩])
 (.block 0 []
 (.loop [5, 7, 61, 62, 63]
 (.seq (.reg [⟨some 64, .bin .lss [] (.t 63) (.t 62), none⟩])
 (.seq (.cond (.t 64)
 (.skip)
 (.exit 0))
 (.seq (.block 1 [5, 7, 61, 62, 63]
 (.seq (.reg [⟨some 65, .mv (.t 63), none⟩,
  ⟨some 66, .ia none 3 (.t 61) (.t 63), none⟩,
  ⟨some 67, .ld (some 3) (.t 66), none⟩,
  ⟨some 10, .al (.ints .i64 [0, 0, 0]), none⟩,
  ⟨some 9, .mv (.t 65), none⟩,
  ⟨none, .st 3 (.t 10) (.t 67), none⟩])
 (.seq (.seq (.reg [⟨some 68, .mv (.t 9), none⟩,
  ⟨some 69, .bin .eql [] (.t 68) (.c (.int .i64 80)), none⟩])
 (.cond (.t 69)
 (.exit 0)
 (.skip)))
 (.seq (.reg [⟨some 11, .mv (.c (.bool true)), none⟩])
 (.seq (.seq (.reg [⟨some 70, .fa 0 (.t 10), none⟩,
  ⟨some 71, .ld none (.t 70), none⟩])
 (.block 2 [5, 7, 10, 11, 61, 62, 63]
 (.seq (.reg [⟨some 73, .bin .eql [] (.t 71) (.c (.int .i64 0)), none⟩,
  ⟨some 72, .mv (.t 73), none⟩])
 (.cond (.t 72)
 (.regd [(0, ⟨some 74, .mv (.t 5), none⟩),
  (1, ⟨some 75, .fa 2 (.t 10), none⟩),
  (2, ⟨some 76, .ld none (.t 75), none⟩),
  (3, ⟨some 77, .call 21 [(.t 74), (.t 76)], none⟩),
  (4, ⟨some 78, .mv (.t 7), none⟩),
  (5, ⟨some 79, .fa 2 (.t 10), none⟩),
  (6, ⟨some 80, .ld none (.t 79), none⟩),
  (7, ⟨some 81, .call 27 [(.t 78), (.t 80)], none⟩),
  (8, ⟨some 82, .bin .eql [] (.t 77) (.t 81), none⟩),
  (9, ⟨some 11, .mv (.t 82), none⟩)] [(6, 3)])
 (.seq (.seq (.reg [⟨some 84, .bin .eql [] (.t 71) (.c (.int .i64 1)), none⟩,
  ⟨some 83, .mv (.t 84), none⟩])
 (.cond (.t 83)
 (.skip)
 (.reg [⟨some 85, .bin .eql [] (.t 71) (.c (.int .i64 2)), none⟩,
  ⟨some 83, .mv (.t 85), none⟩])))
 (.cond (.t 83)
 (.regd [(0, ⟨some 86, .mv (.t 5), none⟩),
  (1, ⟨some 87, .fa 0 (.t 10), none⟩),
  (2, ⟨some 88, .ld none (.t 87), none⟩),
  (3, ⟨some 89, .bin .eql [] (.t 88) (.c (.int .i64 1)), none⟩),
  (4, ⟨some 90, .call 18 [(.t 86), (.t 89)], none⟩),
  (5, ⟨some 91, .mv (.t 7), none⟩),
  (6, ⟨some 92, .fa 0 (.t 10), none⟩),
  (7, ⟨some 93, .ld none (.t 92), none⟩),
  (8, ⟨some 94, .bin .eql [] (.t 93) (.c (.int .i64 1)), none⟩),
  (9, ⟨some 95, .call 28 [(.t 91), (.t 94)], none⟩),
  (10, ⟨some 96, .bin .eql [] (.t 90) (.t 95), none⟩),
  (11, ⟨some 11, .mv (.t 96), none⟩)] [(7, 4)])
 (.seq (.reg [⟨some 98, .bin .eql [] (.t 71) (.c (.int .i64 3)), none⟩,
  ⟨some 97, .mv (.t 98), none⟩])
 (.cond (.t 97)
 (.regd [(0, ⟨some 99, .mv (.t 5), none⟩),
  (1, ⟨some 100, .fa 1 (.t 10), none⟩),
  (2, ⟨some 101, .ld none (.t 100), none⟩),
  (3, ⟨some 102, .call 24 [(.t 99), (.t 101)], none⟩),
  (4, ⟨some 103, .mv (.t 7), none⟩),
  (5, ⟨some 104, .fa 1 (.t 10), none⟩),
  (6, ⟨some 105, .ld none (.t 104), none⟩),
  (7, ⟨some 106, .call 29 [(.t 103), (.t 105)], none⟩),
  (8, ⟨some 107, .bin .eql [] (.t 102) (.t 106), none⟩),
  (9, ⟨some 11, .mv (.t 107), none⟩)] [(6, 3)])
 (.seq (.reg [⟨some 109, .bin .eql [] (.t 71) (.c (.int .i64 4)), none⟩,
  ⟨some 108, .mv (.t 109), none⟩])
 (.cond (.t 108)
 (.seq (.reg [⟨some 110, .mv (.t 7), none⟩,
  ⟨some 111, .nc (.t 110), none⟩,
  ⟨some 112, .fa 7 (.t 111), none⟩,
  ⟨some 113, .ld none (.t 112), none⟩,
  ⟨some 12, .mv (.t 113), none⟩])
 (.seq (.reg [⟨some 114, .mv (.t 5), none⟩,
  ⟨some 115, .call 30 [(.t 114)], none⟩,
  ⟨some 116, .bin .eql [] (.t 115) (.c (.int .i64 0)), none⟩,
  ⟨some 117, .mv (.t 12), none⟩,
  ⟨some 118, .bin .neq [1] (.t 116) (.t 117), none⟩,
  ⟨some 11, .mv (.t 118), none⟩])
 (.reg [⟨some 119, .mv (.t 7), none⟩,
  ⟨some 120, .nc (.t 119), none⟩,
  ⟨some 121, .fa 7 (.t 120), none⟩,
  ⟨none, .st 1 (.t 121) (.c (.bool true)), none⟩])))
 (.seq (.reg [⟨some 123, .bin .eql [] (.t 71) (.c (.int .i64 5)), none⟩,
  ⟨some 122, .mv (.t 123), none⟩])
 (.cond (.t 122)
 (.seq (.reg [⟨some 124, .mv (.t 5), none⟩,
  ⟨some 13, .mv (.t 124), none⟩])
 (.seq (.reg [⟨some 125, .mv (.t 5), none⟩,
  ⟨some 126, .call 31 [(.t 125)], none⟩,
  ⟨some 5, .mv (.t 126), none⟩])
 (.seq (.reg [⟨some 127, .mv (.t 13), none⟩,
  ⟨some 128, .call 21 [(.t 127), (.c (.int .i64 5))], none⟩])
 (.seq (.reg [⟨some 129, .mv (.t 13), none⟩,
  ⟨some 130, .call 18 [(.t 129), (.c (.bool false))], none⟩])
 (.reg [⟨some 131, .mv (.t 13), none⟩,
  ⟨some 132, .call 24 [(.t 131), (.c (.int .i64 10))], none⟩])))))
 (.seq (.reg [⟨some 134, .bin .eql [] (.t 71) (.c (.int .i64 6)), none⟩,
  ⟨some 133, .mv (.t 134), none⟩])
 (.cond (.t 133)
 (.seq (.reg [⟨some 135, .mv (.t 7), none⟩,
  ⟨some 136, .nc (.t 135), none⟩,
  ⟨some 137, .fa 6 (.t 136), none⟩,
  ⟨some 138, .ld none (.t 137), none⟩,
  ⟨some 14, .mv (.t 138), none⟩])
 (.reg [⟨some 139, .mv (.t 5), none⟩,
  ⟨some 140, .mv (.t 14), none⟩,
  ⟨some 141, .call 21 [(.t 139), (.t 140)], none⟩,
  ⟨some 142, .mv (.t 7), none⟩,
  ⟨some 143, .mv (.t 14), none⟩,
  ⟨some 144, .call 27 [(.t 142), (.t 143)], none⟩,
  ⟨some 145, .bin .eql [] (.t 141) (.t 144), none⟩,
  ⟨some 11, .mv (.t 145), none⟩]))
 (.skip)))))))))))))))
 (.seq (.reg [⟨some 147, .mv (.t 5), none⟩,
  ⟨some 148, .call 19 [(.t 147)], none⟩,
  ⟨some 146, .mv (.t 148), none⟩,
  ⟨some 149, .ex 0 (.t 146), none⟩,
  ⟨some 150, .ex 1 (.t 146), none⟩,
  ⟨some 15, .mv (.t 149), none⟩,
  ⟨some 16, .mv (.t 150), none⟩])
 (.seq (.regd [(0, ⟨some 151, .mv (.t 11), none⟩),
  (1, ⟨some 152, .un .not (.t 151), none⟩),
  (2, ⟨some 153, .mv (.t 152), none⟩),
  (3, ⟨some 154, .mv (.t 5), some (153, false)⟩),
  (4, ⟨some 155, .call 25 [(.t 154)], some (153, false)⟩),
  (5, ⟨some 156, .mv (.t 7), some (153, false)⟩),
  (6, ⟨some 157, .call 32 [(.t 156)], some (153, false)⟩),
  (7, ⟨some 158, .bin .neq [] (.t 155) (.t 157), some (153, false)⟩),
  (8, ⟨some 159, .pick (.t 153) (.c (.bool true)) (.t 158), none⟩),
  (9, ⟨some 160, .mv (.t 159), none⟩),
  (10, ⟨some 161, .mv (.t 5), some (160, false)⟩),
  (11, ⟨some 162, .call 22 [(.t 161)], some (160, false)⟩),
  (12, ⟨some 163, .mv (.t 7), some (160, false)⟩),
  (13, ⟨some 164, .nc (.t 163), some (160, false)⟩),
  (14, ⟨some 165, .fa 2 (.t 164), some (160, false)⟩),
  (15, ⟨some 166, .ld none (.t 165), some (160, false)⟩),
  (16, ⟨some 167, .bin .neq [] (.t 162) (.t 166), some (160, false)⟩),
  (17, ⟨some 168, .pick (.t 160) (.c (.bool true)) (.t 167), none⟩),
  (18, ⟨some 169, .mv (.t 168), none⟩),
  (19, ⟨some 170, .mv (.t 5), some (169, false)⟩),
  (20, ⟨some 171, .call 23 [(.t 170)], some (169, false)⟩),
  (21, ⟨some 172, .mv (.t 7), some (169, false)⟩),
  (22, ⟨some 173, .nc (.t 172), some (169, false)⟩),
  (23, ⟨some 174, .fa 0 (.t 173), some (169, false)⟩),
  (24, ⟨some 175, .ld none (.t 174), some (169, false)⟩),
  (25, ⟨some 176, .bin .neq [] (.t 171) (.t 175), some (169, false)⟩),
  (26, ⟨some 177, .pick (.t 169) (.c (.bool true)) (.t 176), none⟩),
  (27, ⟨some 178, .mv (.t 177), none⟩),
  (28, ⟨some 179, .mv (.t 16), some (178, false)⟩),
  (29, ⟨some 180, .mv (.t 7), some (178, false)⟩),
  (30, ⟨some 181, .nc (.t 180), some (178, false)⟩),
  (31, ⟨some 182, .fa 7 (.t 181), some (178, false)⟩),
  (32, ⟨some 183, .ld none (.t 182), some (178, false)⟩),
  (33, ⟨some 184, .bin .eql [1] (.t 179) (.t 183), some (178, false)⟩),
  (34, ⟨some 185, .pick (.t 178) (.c (.bool true)) (.t 184), none⟩),
  (35, ⟨some 186, .mv (.t 185), none⟩),
  (36, ⟨some 187, .mv (.t 16), some (186, false)⟩),
  (37, ⟨some 188, .mv (.t 187), some (186, false)⟩),
  (38, ⟨some 189, .mv (.t 15), some (188, true)⟩),
  (39, ⟨some 190, .mv (.t 7), some (188, true)⟩),
  (40, ⟨some 191, .nc (.t 190), some (188, true)⟩),
  (41, ⟨some 192, .fa 6 (.t 191), some (188, true)⟩),
  (42, ⟨some 193, .ld none (.t 192), some (188, true)⟩),
  (43, ⟨some 194, .bin .neq [] (.t 189) (.t 193), some (188, true)⟩),
  (44, ⟨some 195, .pick (.t 188) (.t 194) (.c (.bool false)), some (186, false)⟩),
  (45, ⟨some 196, .pick (.t 186) (.c (.bool true)) (.t 195), none⟩),
  (46, ⟨some 197, .mv (.t 196), none⟩),
  (47, ⟨some 198, .mv (.t 16), some (197, false)⟩),
  (48, ⟨some 199, .un .not (.t 198), some (197, false)⟩),
  (49, ⟨some 200, .mv (.t 199), some (197, false)⟩),
  (50, ⟨some 201, .mv (.t 15), some (200, true)⟩),
  (51, ⟨some 202, .bin .neq [] (.t 201) (.c (.int .i64 0)), some (200, true)⟩),
  (52, ⟨some 203, .pick (.t 200) (.t 202) (.c (.bool false)), some (197, false)⟩),
  (53, ⟨some 204, .pick (.t 197) (.c (.bool true)) (.t 203), none⟩),
  (54, ⟨some 205, .mv (.t 204), none⟩),
  (55, ⟨some 206, .mv (.t 5), some (205, false)⟩),
  (56, ⟨some 207, .fa 2 (.t 10), some (205, false)⟩),
  (57, ⟨some 208, .ld none (.t 207), some (205, false)⟩),
  (58, ⟨some 209, .call 20 [(.t 206), (.t 208)], some (205, false)⟩),
  (59, ⟨some 210, .mv (.t 7), some (205, false)⟩),
  (60, ⟨some 211, .fa 2 (.t 10), some (205, false)⟩),
  (61, ⟨some 212, .ld none (.t 211), some (205, false)⟩),
  (62, ⟨some 213, .call 33 [(.t 210), (.t 212)], some (205, false)⟩),
  (63, ⟨some 214, .bin .neq [1] (.t 209) (.t 213), some (205, false)⟩),
  (64, ⟨some 215, .pick (.t 205) (.c (.bool true)) (.t 214), none⟩)] [(15, 11), (24, 20), (61, 58)])
 (.cond (.t 215)
 (.seq (.reg [⟨some 4, .mv (.c (.bool false)), none⟩])
 (.ret))
 (.skip)))))))))
 (.reg [⟨some 216, .bin .add [] (.t 63) (.c (.int .i64 1)), none⟩,
  ⟨some 63, .mv (.t 216), none⟩])))))))
 (.seq (.reg [⟨some 4, .mv (.c (.bool true)), none⟩])
 (.ret))))))),
 [.tmp 4], true⟩
/-- ephemeris/ephemerislaw17.PollKnown -/
def M7 : MFunc := ⟨.seq (.reg [⟨some 0, .mv (.c (.bool false)), none⟩])
 (.seq (.reg [⟨some 28, .call 15 [(.c (.int .i64 3)), (.c (.int .i64 5)), (.c (.int .i64 0))], none⟩,
  ⟨some 27, .mv (.t 28), none⟩,
  ⟨some 29, .ex 0 (.t 27), none⟩,
  ⟨some 30, .ex 1 (.t 27), none⟩,
  ⟨some 1, .mv (.t 29), none⟩,
  ⟨some 2, .mv (.t 30), none⟩])
 (.seq (.reg [⟨some 32, .call 15 [(.c (.int .i64 5)), (.c (.int .i64 4)), (.c (.int .i64 0))], none⟩,
  ⟨some 31, .mv (.t 32), none⟩,
  ⟨some 33, .ex 0 (.t 31), none⟩,
  ⟨some 34, .ex 1 (.t 31), none⟩,
  ⟨some 3, .mv (.t 33), none⟩,
  ⟨some 4, .mv (.t 34), none⟩])
 (.seq (.reg [⟨some 36, .call 15 [(.c (.int .i64 4)), (.c (.int .i64 11)), (.c (.int .i64 0))], none⟩,
  ⟨some 35, .mv (.t 36), none⟩,
  ⟨some 37, .ex 0 (.t 35), none⟩,
  ⟨some 38, .ex 1 (.t 35), none⟩,
  ⟨some 5, .mv (.t 37), none⟩,
  ⟨some 6, .mv (.t 38), none⟩])
 (.seq (.reg [⟨some 40, .call 15 [(.c (.int .i64 4)), (.c (.int .i64 5)), (.c (.int .i64 (-1)))], none⟩,
  ⟨some 39, .mv (.t 40), none⟩,
  ⟨some 41, .ex 0 (.t 39), none⟩,
  ⟨some 42, .ex 1 (.t 39), none⟩,
  ⟨some 7, .mv (.t 41), none⟩,
  ⟨some 8, .mv (.t 42), none⟩])
 (.seq (.reg [⟨some 44, .call 15 [(.c (.int .i64 4)), (.c (.int .i64 5)), (.c (.int .i64 4611686018427387905))], none⟩,
  ⟨some 43, .mv (.t 44), none⟩,
  ⟨some 45, .ex 0 (.t 43), none⟩,
  ⟨some 46, .ex 1 (.t 43), none⟩,
  ⟨some 9, .mv (.t 45), none⟩,
  ⟨some 10, .mv (.t 46), none⟩])
 (.seq (.reg [⟨some 48, .call 15 [(.c (.int .i64 4)), (.c (.int .i64 10)), (.c (.int .i64 0))], none⟩,
  ⟨some 47, .mv (.t 48), none⟩,
  ⟨some 49, .ex 0 (.t 47), none⟩,
  ⟨some 50, .ex 1 (.t 47), none⟩,
  ⟨some 11, .mv (.t 49), none⟩,
  ⟨some 12, .mv (.t 50), none⟩])
 (.seq (.seq (.reg [⟨some 51, .mv (.t 12), none⟩,
  ⟨some 52, .bin .neq [] (.t 51) (.c (.int .i64 0)), none⟩])
 (.cond (.t 52)
 (.seq (.reg [⟨some 0, .mv (.c (.bool false)), none⟩])
 (.ret))
 (.skip)))
 (.seq (.reg [⟨some 53, .mv (.t 11), none⟩,
  ⟨some 54, .call 21 [(.t 53), (.c (.int .i64 (-1)))], none⟩,
  ⟨some 13, .mv (.t 54), none⟩])
 (.seq (.reg [⟨some 55, .mv (.t 11), none⟩,
  ⟨some 56, .call 24 [(.t 55), (.c (.int .i64 3))], none⟩,
  ⟨some 14, .mv (.t 56), none⟩])
 (.seq (.reg [⟨some 57, .mv (.t 11), none⟩,
  ⟨some 58, .call 24 [(.t 57), (.c (.int .i64 11))], none⟩,
  ⟨some 15, .mv (.t 58), none⟩])
 (.seq (.reg [⟨some 59, .mv (.t 11), none⟩,
  ⟨some 60, .call 24 [(.t 59), (.c (.int .i64 7))], none⟩,
  ⟨some 16, .mv (.t 60), none⟩])
 (.seq (.reg [⟨some 62, .mv (.t 11), none⟩,
  ⟨some 63, .call 19 [(.t 62)], none⟩,
  ⟨some 61, .mv (.t 63), none⟩,
  ⟨some 64, .ex 0 (.t 61), none⟩,
  ⟨some 65, .ex 1 (.t 61), none⟩,
  ⟨some 17, .mv (.t 64), none⟩,
  ⟨some 18, .mv (.t 65), none⟩])
 (.seq (.reg [⟨some 66, .mv (.t 11), none⟩,
  ⟨some 67, .call 30 [(.t 66)], none⟩,
  ⟨some 19, .mv (.t 67), none⟩])
 (.seq (.reg [⟨some 68, .mv (.t 11), none⟩,
  ⟨some 69, .call 30 [(.t 68)], none⟩,
  ⟨some 20, .mv (.t 69), none⟩])
 (.seq (.reg [⟨some 71, .mv (.t 11), none⟩,
  ⟨some 72, .call 19 [(.t 71)], none⟩,
  ⟨some 70, .mv (.t 72), none⟩,
  ⟨some 73, .ex 0 (.t 70), none⟩,
  ⟨some 74, .ex 1 (.t 70), none⟩,
  ⟨some 21, .mv (.t 73), none⟩,
  ⟨some 22, .mv (.t 74), none⟩])
 (.seq (.reg [⟨some 75, .mv (.t 11), none⟩,
  ⟨some 76, .call 21 [(.t 75), (.c (.int .i64 5))], none⟩,
  ⟨some 23, .mv (.t 76), none⟩])
 (.seq (.reg [⟨some 24, .mv (.c .nilp), none⟩])
 (.seq (.reg [⟨some 78, .mv (.t 24), none⟩,
  ⟨some 79, .call 19 [(.t 78)], none⟩,
  ⟨some 77, .mv (.t 79), none⟩,
  ⟨some 80, .ex 0 (.t 77), none⟩,
  ⟨some 81, .ex 1 (.t 77), none⟩,
  ⟨some 25, .mv (.t 80), none⟩,
  ⟨some 26, .mv (.t 81), none⟩])
 (.seq (.reg [⟨some 82, .mv (.c (.bool true)), none⟩,
  ⟨some 83, .call 16 [], some (82, true)⟩,
  ⟨some 84, .pick (.t 82) (.t 83) (.c (.bool false)), none⟩,
  ⟨some 85, .mv (.t 84), none⟩,
  ⟨some 86, .mv (.t 2), some (85, true)⟩,
  ⟨some 87, .bin .eql [] (.t 86) (.c (.int .i64 1)), some (85, true)⟩,
  ⟨some 88, .pick (.t 85) (.t 87) (.c (.bool false)), none⟩,
  ⟨some 89, .mv (.t 88), none⟩,
  ⟨some 90, .mv (.t 4), some (89, true)⟩,
  ⟨some 91, .bin .eql [] (.t 90) (.c (.int .i64 1)), some (89, true)⟩,
  ⟨some 92, .pick (.t 89) (.t 91) (.c (.bool false)), none⟩,
  ⟨some 93, .mv (.t 92), none⟩,
  ⟨some 94, .mv (.t 6), some (93, true)⟩,
  ⟨some 95, .bin .eql [] (.t 94) (.c (.int .i64 1)), some (93, true)⟩,
  ⟨some 96, .pick (.t 93) (.t 95) (.c (.bool false)), none⟩,
  ⟨some 97, .mv (.t 96), none⟩,
  ⟨some 98, .mv (.t 8), some (97, true)⟩,
  ⟨some 99, .bin .eql [] (.t 98) (.c (.int .i64 1)), some (97, true)⟩,
  ⟨some 100, .pick (.t 97) (.t 99) (.c (.bool false)), none⟩,
  ⟨some 101, .mv (.t 100), none⟩,
  ⟨some 102, .mv (.t 10), some (101, true)⟩,
  ⟨some 103, .bin .eql [] (.t 102) (.c (.int .i64 1)), some (101, true)⟩,
  ⟨some 104, .pick (.t 101) (.t 103) (.c (.bool false)), none⟩,
  ⟨some 105, .mv (.t 104), none⟩,
  ⟨some 106, .mv (.t 13), some (105, true)⟩,
  ⟨some 107, .bin .eql [] (.t 106) (.c (.int .i64 1)), some (105, true)⟩,
  ⟨some 108, .pick (.t 105) (.t 107) (.c (.bool false)), none⟩,
  ⟨some 109, .mv (.t 108), none⟩,
  ⟨some 110, .mv (.t 14), some (109, true)⟩,
  ⟨some 111, .bin .eql [] (.t 110) (.c (.int .i64 1)), some (109, true)⟩,
  ⟨some 112, .pick (.t 109) (.t 111) (.c (.bool false)), none⟩,
  ⟨some 113, .mv (.t 112), none⟩,
  ⟨some 114, .mv (.t 15), some (113, true)⟩,
  ⟨some 115, .bin .eql [] (.t 114) (.c (.int .i64 1)), some (113, true)⟩,
  ⟨some 116, .pick (.t 113) (.t 115) (.c (.bool false)), none⟩,
  ⟨some 117, .mv (.t 116), none⟩,
  ⟨some 118, .mv (.t 16), some (117, true)⟩,
  ⟨some 119, .bin .eql [] (.t 118) (.c (.int .i64 0)), some (117, true)⟩,
  ⟨some 120, .pick (.t 117) (.t 119) (.c (.bool false)), none⟩,
  ⟨some 121, .mv (.t 120), none⟩,
  ⟨some 122, .mv (.t 18), some (121, true)⟩,
  ⟨some 123, .pick (.t 121) (.t 122) (.c (.bool false)), none⟩,
  ⟨some 124, .mv (.t 123), none⟩,
  ⟨some 125, .mv (.t 17), some (124, true)⟩,
  ⟨some 126, .bin .eql [] (.t 125) (.c (.int .i64 0)), some (124, true)⟩,
  ⟨some 127, .pick (.t 124) (.t 126) (.c (.bool false)), none⟩,
  ⟨some 128, .mv (.t 127), none⟩,
  ⟨some 129, .mv (.t 11), some (128, true)⟩,
  ⟨some 130, .call 22 [(.t 129)], some (128, true)⟩,
  ⟨some 131, .bin .eql [] (.t 130) (.c (.int .i64 7)), some (128, true)⟩,
  ⟨some 132, .pick (.t 128) (.t 131) (.c (.bool false)), none⟩,
  ⟨some 133, .mv (.t 132), none⟩,
  ⟨some 134, .mv (.t 19), some (133, true)⟩,
  ⟨some 135, .bin .eql [] (.t 134) (.c (.int .i64 0)), some (133, true)⟩,
  ⟨some 136, .pick (.t 133) (.t 135) (.c (.bool false)), none⟩,
  ⟨some 137, .mv (.t 136), none⟩,
  ⟨some 138, .mv (.t 20), some (137, true)⟩,
  ⟨some 139, .bin .eql [] (.t 138) (.c (.int .i64 35)), some (137, true)⟩,
  ⟨some 140, .pick (.t 137) (.t 139) (.c (.bool false)), none⟩,
  ⟨some 141, .mv (.t 140), none⟩,
  ⟨some 142, .mv (.t 22), some (141, true)⟩,
  ⟨some 143, .un .not (.t 142), some (141, true)⟩,
  ⟨some 144, .pick (.t 141) (.t 143) (.c (.bool false)), none⟩,
  ⟨some 145, .mv (.t 144), none⟩,
  ⟨some 146, .mv (.t 23), some (145, true)⟩,
  ⟨some 147, .bin .eql [] (.t 146) (.c (.int .i64 35)), some (145, true)⟩,
  ⟨some 148, .pick (.t 145) (.t 147) (.c (.bool false)), none⟩,
  ⟨some 149, .mv (.t 148), none⟩,
  ⟨some 150, .mv (.t 11), some (149, true)⟩,
  ⟨some 151, .call 20 [(.t 150), (.c (.int .i64 4611686018427387904))], some (149, true)⟩,
  ⟨some 152, .un .not (.t 151), some (149, true)⟩,
  ⟨some 153, .pick (.t 149) (.t 152) (.c (.bool false)), none⟩,
  ⟨some 154, .mv (.t 153), none⟩,
  ⟨some 155, .mv (.t 11), some (154, true)⟩,
  ⟨some 156, .call 18 [(.t 155), (.c (.bool true))], some (154, true)⟩,
  ⟨some 157, .bin .eql [] (.t 156) (.c (.int .i64 35)), some (154, true)⟩,
  ⟨some 158, .pick (.t 154) (.t 157) (.c (.bool false)), none⟩,
  ⟨some 159, .mv (.t 158), none⟩,
  ⟨some 160, .mv (.t 11), some (159, true)⟩,
  ⟨some 161, .call 24 [(.t 160), (.c (.int .i64 5))], some (159, true)⟩,
  ⟨some 162, .bin .eql [] (.t 161) (.c (.int .i64 35)), some (159, true)⟩,
  ⟨some 163, .pick (.t 159) (.t 162) (.c (.bool false)), none⟩,
  ⟨some 164, .mv (.t 163), none⟩,
  ⟨some 165, .mv (.t 26), some (164, true)⟩,
  ⟨some 166, .un .not (.t 165), some (164, true)⟩,
  ⟨some 167, .pick (.t 164) (.t 166) (.c (.bool false)), none⟩,
  ⟨some 168, .mv (.t 167), none⟩,
  ⟨some 169, .mv (.t 24), some (168, true)⟩,
  ⟨some 170, .call 21 [(.t 169), (.c (.int .i64 0))], some (168, true)⟩,
  ⟨some 171, .bin .eql [] (.t 170) (.c (.int .i64 2)), some (168, true)⟩,
  ⟨some 172, .pick (.t 168) (.t 171) (.c (.bool false)), none⟩,
  ⟨some 173, .mv (.t 172), none⟩,
  ⟨some 174, .mv (.t 24), some (173, true)⟩,
  ⟨some 175, .call 24 [(.t 174), (.c (.int .i64 4))], some (173, true)⟩,
  ⟨some 176, .bin .eql [] (.t 175) (.c (.int .i64 2)), some (173, true)⟩,
  ⟨some 177, .pick (.t 173) (.t 176) (.c (.bool false)), none⟩,
  ⟨some 178, .mv (.t 177), none⟩,
  ⟨some 179, .mv (.t 24), some (178, true)⟩,
  ⟨some 180, .call 30 [(.t 179)], some (178, true)⟩,
  ⟨some 181, .bin .eql [] (.t 180) (.c (.int .i64 2)), some (178, true)⟩,
  ⟨some 182, .pick (.t 178) (.t 181) (.c (.bool false)), none⟩,
  ⟨some 183, .mv (.t 182), none⟩,
  ⟨some 184, .mv (.t 24), some (183, true)⟩,
  ⟨some 185, .call 25 [(.t 184)], some (183, true)⟩,
  ⟨some 186, .bin .eql [] (.t 185) (.c (.int .u8 0)), some (183, true)⟩,
  ⟨some 187, .pick (.t 183) (.t 186) (.c (.bool false)), none⟩,
  ⟨some 188, .mv (.t 187), none⟩,
  ⟨some 189, .mv (.t 24), some (188, true)⟩,
  ⟨some 190, .call 22 [(.t 189)], some (188, true)⟩,
  ⟨some 191, .bin .eql [] (.t 190) (.c (.int .i64 0)), some (188, true)⟩,
  ⟨some 192, .pick (.t 188) (.t 191) (.c (.bool false)), none⟩,
  ⟨some 193, .mv (.t 192), none⟩,
  ⟨some 194, .mv (.t 24), some (193, true)⟩,
  ⟨some 195, .call 23 [(.t 194)], some (193, true)⟩,
  ⟨some 196, .bin .eql [] (.t 195) (.c (.int .i64 0)), some (193, true)⟩,
  ⟨some 197, .pick (.t 193) (.t 196) (.c (.bool false)), none⟩,
  ⟨some 198, .mv (.t 197), none⟩,
  ⟨some 199, .mv (.t 24), some (198, true)⟩,
  ⟨some 200, .call 31 [(.t 199)], some (198, true)⟩,
  ⟨some 201, .bin .eql [2] (.t 200) (.c .nilp), some (198, true)⟩,
  ⟨some 202, .pick (.t 198) (.t 201) (.c (.bool false)), none⟩,
  ⟨some 0, .mv (.t 202), none⟩])
 (.ret)))))))))))))))))))),
 [.tmp 0], true⟩
/-- ephemeris/ephemerislaw03.OctetRows -/
def M8 : MFunc := ⟨.seq (.reg [⟨some 6, .mv (.c (.bool false)), none⟩])
 (.seq (.regd [(0, ⟨some 23, .mv (.t 0), none⟩),
  (1, ⟨some 24, .mv (.t 0), none⟩),
  (2, ⟨some 25, .len none (.t 24), none⟩),
  (3, ⟨some 26, .mnx false [(.t 25), (.c (.int .i64 60))], none⟩),
  (4, ⟨some 27, .slc none 1 (.t 23) none (some (.t 26)) none, none⟩),
  (5, ⟨some 28, .mv (.t 1), none⟩),
  (6, ⟨some 29, .mv (.t 1), none⟩),
  (7, ⟨some 30, .len none (.t 29), none⟩),
  (8, ⟨some 31, .mnx false [(.t 30), (.c (.int .i64 60))], none⟩),
  (9, ⟨some 32, .slc none 1 (.t 28) none (some (.t 31)) none, none⟩),
  (10, ⟨some 33, .mv (.t 2), none⟩),
  (11, ⟨some 34, .mv (.t 2), none⟩),
  (12, ⟨some 35, .len none (.t 34), none⟩),
  (13, ⟨some 36, .mnx false [(.t 35), (.c (.int .i64 600))], none⟩),
  (14, ⟨some 37, .slc none 1 (.t 33) none (some (.t 36)) none, none⟩),
  (15, ⟨some 0, .mv (.t 27), none⟩),
  (16, ⟨some 1, .mv (.t 32), none⟩),
  (17, ⟨some 2, .mv (.t 37), none⟩)] [])
 (.seq (.reg [⟨some 38, .mv (.t 2), none⟩,
  ⟨some 39, .call 34 [(.t 38)], none⟩,
  ⟨some 7, .mv (.t 39), none⟩])
 (.seq (.reg [⟨some 41, .mv (.t 0), none⟩,
  ⟨some 42, .mv (.t 1), none⟩,
  ⟨some 43, .call 35 [(.t 41), (.t 42)], none⟩,
  ⟨some 40, .mv (.t 43), none⟩,
  ⟨some 44, .ex 0 (.t 40), none⟩,
  ⟨some 45, .ex 1 (.t 40), none⟩,
  ⟨some 8, .mv (.t 44), none⟩,
  ⟨some 9, .mv (.t 45), none⟩])
 (.seq (.reg [⟨some 47, .mv (.t 0), none⟩,
  ⟨some 48, .mv (.t 1), none⟩,
  ⟨some 49, .call 36 [(.t 47), (.t 48)], none⟩,
  ⟨some 46, .mv (.t 49), none⟩,
  ⟨some 50, .ex 0 (.t 46), none⟩,
  ⟨some 51, .ex 1 (.t 46), none⟩,
  ⟨some 10, .mv (.t 50), none⟩,
  ⟨some 11, .mv (.t 51), none⟩])
 (.seq (.reg [⟨some 53, .mv (.t 0), none⟩,
  ⟨some 54, .mv (.t 7), none⟩,
  ⟨some 55, .call 37 [(.t 53), (.t 54)], none⟩,
  ⟨some 52, .mv (.t 55), none⟩,
  ⟨some 56, .ex 0 (.t 52), none⟩,
  ⟨some 57, .ex 1 (.t 52), none⟩,
  ⟨some 58, .ex 2 (.t 52), none⟩,
  ⟨some 12, .mv (.t 56), none⟩,
  ⟨some 13, .mv (.t 57), none⟩,
  ⟨some 14, .mv (.t 58), none⟩])
 (.seq (.reg [⟨some 60, .mv (.t 0), none⟩,
  ⟨some 61, .mv (.t 2), none⟩,
  ⟨some 62, .call 38 [(.t 60), (.t 61)], none⟩,
  ⟨some 59, .mv (.t 62), none⟩,
  ⟨some 63, .ex 0 (.t 59), none⟩,
  ⟨some 64, .ex 1 (.t 59), none⟩,
  ⟨some 65, .ex 2 (.t 59), none⟩,
  ⟨some 15, .mv (.t 63), none⟩,
  ⟨some 16, .mv (.t 64), none⟩,
  ⟨some 17, .mv (.t 65), none⟩])
 (.seq (.reg [⟨some 67, .mv (.t 0), none⟩,
  ⟨some 68, .call 39 [(.t 67)], none⟩,
  ⟨some 66, .mv (.t 68), none⟩,
  ⟨some 69, .ex 0 (.t 66), none⟩,
  ⟨some 70, .ex 1 (.t 66), none⟩,
  ⟨some 18, .mv (.t 69), none⟩,
  ⟨some 19, .mv (.t 70), none⟩])
 (.seq (.reg [⟨some 71, .mv (.t 0), none⟩,
  ⟨some 72, .call 40 [(.t 71)], none⟩,
  ⟨some 20, .mv (.t 72), none⟩])
 (.seq (.reg [⟨some 73, .mv (.t 8), none⟩,
  ⟨some 74, .mv (.t 10), none⟩,
  ⟨some 75, .call 41 [(.t 73), (.t 74)], none⟩,
  ⟨some 76, .mv (.t 75), none⟩,
  ⟨some 77, .mv (.t 9), some (76, true)⟩,
  ⟨some 78, .mv (.t 11), some (76, true)⟩,
  ⟨some 79, .bin .eql [] (.t 77) (.t 78), some (76, true)⟩,
  ⟨some 80, .pick (.t 76) (.t 79) (.c (.bool false)), none⟩,
  ⟨some 81, .mv (.t 80), none⟩,
  ⟨some 82, .mv (.t 12), some (81, true)⟩,
  ⟨some 83, .mv (.t 15), some (81, true)⟩,
  ⟨some 84, .call 42 [(.t 82), (.t 83)], some (81, true)⟩,
  ⟨some 85, .pick (.t 81) (.t 84) (.c (.bool false)), none⟩,
  ⟨some 86, .mv (.t 85), none⟩,
  ⟨some 87, .mv (.t 13), some (86, true)⟩,
  ⟨some 88, .mv (.t 16), some (86, true)⟩,
  ⟨some 89, .call 41 [(.t 87), (.t 88)], some (86, true)⟩,
  ⟨some 90, .pick (.t 86) (.t 89) (.c (.bool false)), none⟩,
  ⟨some 91, .mv (.t 90), none⟩,
  ⟨some 92, .mv (.t 14), some (91, true)⟩,
  ⟨some 93, .mv (.t 17), some (91, true)⟩,
  ⟨some 94, .bin .eql [] (.t 92) (.t 93), some (91, true)⟩,
  ⟨some 95, .pick (.t 91) (.t 94) (.c (.bool false)), none⟩,
  ⟨some 96, .mv (.t 95), none⟩,
  ⟨some 97, .mv (.t 19), some (96, true)⟩,
  ⟨some 98, .bin .eql [] (.t 97) (.c (.int .i64 0)), some (96, true)⟩,
  ⟨some 99, .mv (.t 20), some (96, true)⟩,
  ⟨some 100, .bin .geq [] (.t 99) (.c (.int .i64 0)), some (96, true)⟩,
  ⟨some 101, .bin .eql [1] (.t 98) (.t 100), some (96, true)⟩,
  ⟨some 102, .pick (.t 96) (.t 101) (.c (.bool false)), none⟩,
  ⟨some 103, .mv (.t 102), none⟩,
  ⟨some 104, .mv (.t 20), some (103, true)⟩,
  ⟨some 105, .bin .lss [] (.t 104) (.c (.int .i64 0)), some (103, true)⟩,
  ⟨some 106, .mv (.t 105), some (103, true)⟩,
  ⟨some 107, .mv (.t 18), some (106, false)⟩,
  ⟨some 108, .mv (.t 20), some (106, false)⟩,
  ⟨some 109, .bin .eql [] (.t 107) (.t 108), some (106, false)⟩,
  ⟨some 110, .pick (.t 106) (.c (.bool true)) (.t 109), some (103, true)⟩,
  ⟨some 111, .pick (.t 103) (.t 110) (.c (.bool false)), none⟩,
  ⟨some 112, .mv (.t 111), none⟩,
  ⟨some 113, .mv (.t 19), some (112, true)⟩,
  ⟨some 114, .bin .eql [] (.t 113) (.c (.int .i64 0)), some (112, true)⟩,
  ⟨some 115, .mv (.t 114), some (112, true)⟩,
  ⟨some 116, .mv (.t 19), some (115, false)⟩,
  ⟨some 117, .bin .eql [] (.t 116) (.c (.int .i64 1)), some (115, false)⟩,
  ⟨some 118, .mv (.t 117), some (115, false)⟩,
  ⟨some 119, .mv (.t 18), some (118, true)⟩,
  ⟨some 120, .bin .eql [] (.t 119) (.c (.int .i64 0)), some (118, true)⟩,
  ⟨some 121, .pick (.t 118) (.t 120) (.c (.bool false)), some (115, false)⟩,
  ⟨some 122, .pick (.t 115) (.c (.bool true)) (.t 121), some (112, true)⟩,
  ⟨some 123, .pick (.t 112) (.t 122) (.c (.bool false)), none⟩,
  ⟨some 21, .mv (.t 123), none⟩])
 (.seq (.seq (.reg [⟨some 124, .mv (.t 13), none⟩,
  ⟨some 125, .len none (.t 124), none⟩,
  ⟨some 126, .mv (.c (.int .i64 0)), none⟩])
 (.block 0 [2, 7, 21]
 (.loop [2, 7, 13, 21, 125, 126]
 (.seq (.reg [⟨some 127, .bin .lss [] (.t 126) (.t 125), none⟩])
 (.seq (.cond (.t 127)
 (.skip)
 (.exit 0))
 (.seq (.block 1 [2, 7, 13, 21, 125, 126]
 (.seq (.reg [⟨some 128, .mv (.t 126), none⟩,
  ⟨some 22, .mv (.t 128), none⟩])
 (.reg [⟨some 129, .mv (.t 13), none⟩,
  ⟨some 130, .mv (.t 22), none⟩,
  ⟨some 131, .ia none 1 (.t 129) (.t 130), none⟩,
  ⟨some 132, .ld none (.t 131), none⟩,
  ⟨some 133, .bin .xor [] (.t 132) (.c (.int .u8 255)), none⟩,
  ⟨some 134, .ia none 1 (.t 129) (.t 130), none⟩,
  ⟨none, .st 1 (.t 134) (.t 133), none⟩])))
 (.reg [⟨some 135, .bin .add [] (.t 126) (.c (.int .i64 1)), none⟩,
  ⟨some 126, .mv (.t 135), none⟩])))))))
 (.seq (.reg [⟨some 136, .call 43 [], none⟩,
  ⟨some 137, .mv (.t 136), none⟩,
  ⟨some 138, .mv (.t 21), some (137, true)⟩,
  ⟨some 139, .pick (.t 137) (.t 138) (.c (.bool false)), none⟩,
  ⟨some 140, .mv (.t 139), none⟩,
  ⟨some 141, .mv (.t 7), some (140, true)⟩,
  ⟨some 142, .mv (.t 2), some (140, true)⟩,
  ⟨some 143, .call 41 [(.t 141), (.t 142)], some (140, true)⟩,
  ⟨some 144, .pick (.t 140) (.t 143) (.c (.bool false)), none⟩,
  ⟨some 6, .mv (.t 144), none⟩])
 (.ret)))))))))))),
 [.tmp 6], true⟩
/-- ephemeris/ephemerislaw03.OctetPlaces -/
def M9 : MFunc := ⟨.seq (.reg [⟨some 4, .bx (some .i64) 2 (.t 1), none⟩,
  ⟨some 6, .mv (.c (.bool false)), none⟩])
 (.seq (.regd [(0, ⟨some 28, .fa 0 (.t 4), none⟩),
  (1, ⟨some 29, .ld none (.t 28), none⟩),
  (2, ⟨some 30, .fa 1 (.t 4), none⟩),
  (3, ⟨some 31, .ld none (.t 30), none⟩),
  (4, ⟨some 7, .mv (.t 29), none⟩),
  (5, ⟨some 8, .mv (.t 31), none⟩)] [])
 (.seq (.reg [⟨some 32, .mv (.t 0), none⟩,
  ⟨some 33, .mv (.t 0), none⟩,
  ⟨some 34, .len none (.t 33), none⟩,
  ⟨some 35, .mnx false [(.t 34), (.c (.int .i64 600))], none⟩,
  ⟨some 36, .slc none 1 (.t 32) none (some (.t 35)) none, none⟩,
  ⟨some 0, .mv (.t 36), none⟩])
 (.seq (.reg [⟨some 37, .mv (.t 0), none⟩,
  ⟨some 38, .call 34 [(.t 37)], none⟩,
  ⟨some 9, .mv (.t 38), none⟩])
 (.seq (.reg [⟨some 40, .mv (.t 9), none⟩,
  ⟨some 41, .mv (.t 7), none⟩,
  ⟨some 42, .mv (.t 8), none⟩,
  ⟨some 43, .call 44 [(.t 40), (.t 41), (.t 42)], none⟩,
  ⟨some 39, .mv (.t 43), none⟩,
  ⟨some 44, .ex 0 (.t 39), none⟩,
  ⟨some 45, .ex 1 (.t 39), none⟩,
  ⟨some 10, .mv (.t 44), none⟩,
  ⟨some 11, .mv (.t 45), none⟩])
 (.seq (.reg [⟨some 47, .mv (.t 0), none⟩,
  ⟨some 48, .mv (.t 7), none⟩,
  ⟨some 49, .mv (.t 8), none⟩,
  ⟨some 50, .call 45 [(.t 47), (.t 48), (.t 49)], none⟩,
  ⟨some 46, .mv (.t 50), none⟩,
  ⟨some 51, .ex 0 (.t 46), none⟩,
  ⟨some 52, .ex 1 (.t 46), none⟩,
  ⟨some 12, .mv (.t 51), none⟩,
  ⟨some 13, .mv (.t 52), none⟩])
 (.seq (.reg [⟨some 54, .mv (.t 9), none⟩,
  ⟨some 55, .mv (.t 7), none⟩,
  ⟨some 56, .mv (.t 8), none⟩,
  ⟨some 57, .mv (.t 2), none⟩,
  ⟨some 58, .call 46 [(.t 54), (.t 55), (.t 56), (.t 57)], none⟩,
  ⟨some 53, .mv (.t 58), none⟩,
  ⟨some 59, .ex 0 (.t 53), none⟩,
  ⟨some 60, .ex 1 (.t 53), none⟩,
  ⟨some 14, .mv (.t 59), none⟩,
  ⟨some 15, .mv (.t 60), none⟩])
 (.seq (.reg [⟨some 62, .mv (.t 0), none⟩,
  ⟨some 63, .mv (.t 7), none⟩,
  ⟨some 64, .mv (.t 8), none⟩,
  ⟨some 65, .mv (.t 2), none⟩,
  ⟨some 66, .call 47 [(.t 62), (.t 63), (.t 64), (.t 65)], none⟩,
  ⟨some 61, .mv (.t 66), none⟩,
  ⟨some 67, .ex 0 (.t 61), none⟩,
  ⟨some 68, .ex 1 (.t 61), none⟩,
  ⟨some 16, .mv (.t 67), none⟩,
  ⟨some 17, .mv (.t 68), none⟩])
 (.seq (.reg [⟨some 70, .mv (.t 2), none⟩,
  ⟨some 71, .mv (.t 8), none⟩,
  ⟨some 72, .call 48 [(.t 70), (.t 71)], none⟩,
  ⟨some 69, .mv (.t 72), none⟩,
  ⟨some 73, .ex 0 (.t 69), none⟩,
  ⟨some 74, .ex 1 (.t 69), none⟩,
  ⟨some 18, .mv (.t 73), none⟩,
  ⟨some 19, .mv (.t 74), none⟩])
 (.seq (.reg [⟨some 76, .mv (.t 2), none⟩,
  ⟨some 77, .mv (.t 8), none⟩,
  ⟨some 78, .call 49 [(.t 76), (.t 77)], none⟩,
  ⟨some 75, .mv (.t 78), none⟩,
  ⟨some 79, .ex 0 (.t 75), none⟩,
  ⟨some 80, .ex 1 (.t 75), none⟩,
  ⟨some 20, .mv (.t 79), none⟩,
  ⟨some 21, .mv (.t 80), none⟩])
 (.seq (.reg [⟨some 82, .mv (.t 2), none⟩,
  ⟨some 83, .ci .i64 (.t 82), none⟩,
  ⟨some 84, .mv (.t 8), none⟩,
  ⟨some 85, .call 50 [(.t 83), (.t 84)], none⟩,
  ⟨some 81, .mv (.t 85), none⟩,
  ⟨some 86, .ex 0 (.t 81), none⟩,
  ⟨some 87, .ex 1 (.t 81), none⟩,
  ⟨some 22, .mv (.t 86), none⟩,
  ⟨some 23, .mv (.t 87), none⟩])
 (.seq (.reg [⟨some 89, .mv (.t 2), none⟩,
  ⟨some 90, .ci .i64 (.t 89), none⟩,
  ⟨some 91, .mv (.t 8), none⟩,
  ⟨some 92, .call 51 [(.t 90), (.t 91)], none⟩,
  ⟨some 88, .mv (.t 92), none⟩,
  ⟨some 93, .ex 0 (.t 88), none⟩,
  ⟨some 94, .ex 1 (.t 88), none⟩,
  ⟨some 24, .mv (.t 93), none⟩,
  ⟨some 25, .mv (.t 94), none⟩])
 (.seq (.reg [⟨some 95, .mv (.t 10), none⟩,
  ⟨some 96, .mv (.t 12), none⟩,
  ⟨some 97, .bin .eql [] (.t 95) (.t 96), none⟩,
  ⟨some 98, .mv (.t 97), none⟩,
  ⟨some 99, .mv (.t 11), some (98, true)⟩,
  ⟨some 100, .mv (.t 13), some (98, true)⟩,
  ⟨some 101, .bin .eql [1] (.t 99) (.t 100), some (98, true)⟩,
  ⟨some 102, .pick (.t 98) (.t 101) (.c (.bool false)), none⟩,
  ⟨some 103, .mv (.t 102), none⟩,
  ⟨some 104, .mv (.t 14), some (103, true)⟩,
  ⟨some 105, .mv (.t 16), some (103, true)⟩,
  ⟨some 106, .call 41 [(.t 104), (.t 105)], some (103, true)⟩,
  ⟨some 107, .pick (.t 103) (.t 106) (.c (.bool false)), none⟩,
  ⟨some 108, .mv (.t 107), none⟩,
  ⟨some 109, .mv (.t 15), some (108, true)⟩,
  ⟨some 110, .mv (.t 17), some (108, true)⟩,
  ⟨some 111, .bin .eql [] (.t 109) (.t 110), some (108, true)⟩,
  ⟨some 112, .pick (.t 108) (.t 111) (.c (.bool false)), none⟩,
  ⟨some 113, .mv (.t 112), none⟩,
  ⟨some 114, .mv (.t 18), some (113, true)⟩,
  ⟨some 115, .mv (.t 20), some (113, true)⟩,
  ⟨some 116, .bin .eql [] (.t 114) (.t 115), some (113, true)⟩,
  ⟨some 117, .pick (.t 113) (.t 116) (.c (.bool false)), none⟩,
  ⟨some 118, .mv (.t 117), none⟩,
  ⟨some 119, .mv (.t 19), some (118, true)⟩,
  ⟨some 120, .mv (.t 21), some (118, true)⟩,
  ⟨some 121, .bin .eql [] (.t 119) (.t 120), some (118, true)⟩,
  ⟨some 122, .pick (.t 118) (.t 121) (.c (.bool false)), none⟩,
  ⟨some 123, .mv (.t 122), none⟩,
  ⟨some 124, .mv (.t 22), some (123, true)⟩,
  ⟨some 125, .mv (.t 24), some (123, true)⟩,
  ⟨some 126, .bin .eql [] (.t 124) (.t 125), some (123, true)⟩,
  ⟨some 127, .pick (.t 123) (.t 126) (.c (.bool false)), none⟩,
  ⟨some 128, .mv (.t 127), none⟩,
  ⟨some 129, .mv (.t 23), some (128, true)⟩,
  ⟨some 130, .mv (.t 25), some (128, true)⟩,
  ⟨some 131, .bin .eql [] (.t 129) (.t 130), some (128, true)⟩,
  ⟨some 132, .pick (.t 128) (.t 131) (.c (.bool false)), none⟩,
  ⟨some 26, .mv (.t 132), none⟩])
 (.seq (.seq (.reg [⟨some 133, .mv (.t 14), none⟩,
  ⟨some 134, .len none (.t 133), none⟩,
  ⟨some 135, .mv (.c (.int .i64 0)), none⟩])
 (.block 0 [0, 9, 26]
 (.loop [0, 9, 14, 26, 134, 135]
 (.seq (.reg [⟨some 136, .bin .lss [] (.t 135) (.t 134), none⟩])
 (.seq (.cond (.t 136)
 (.skip)
 (.exit 0))
 (.seq (.block 1 [0, 9, 14, 26, 134, 135]
 (.seq (.reg [⟨some 137, .mv (.t 135), none⟩,
  ⟨some 27, .mv (.t 137), none⟩])
 (.reg [⟨some 138, .mv (.t 14), none⟩,
  ⟨some 139, .mv (.t 27), none⟩,
  ⟨some 140, .ia none 1 (.t 138) (.t 139), none⟩,
  ⟨some 141, .ld none (.t 140), none⟩,
  ⟨some 142, .bin .xor [] (.t 141) (.c (.int .u8 255)), none⟩,
  ⟨some 143, .ia none 1 (.t 138) (.t 139), none⟩,
  ⟨none, .st 1 (.t 143) (.t 142), none⟩])))
 (.reg [⟨some 144, .bin .add [] (.t 135) (.c (.int .i64 1)), none⟩,
  ⟨some 135, .mv (.t 144), none⟩])))))))
 (.seq (.reg [⟨some 145, .call 43 [], none⟩,
  ⟨some 146, .mv (.t 145), none⟩,
  ⟨some 147, .mv (.t 26), some (146, true)⟩,
  ⟨some 148, .pick (.t 146) (.t 147) (.c (.bool false)), none⟩,
  ⟨some 149, .mv (.t 148), none⟩,
  ⟨some 150, .mv (.t 9), some (149, true)⟩,
  ⟨some 151, .mv (.t 0), some (149, true)⟩,
  ⟨some 152, .call 41 [(.t 150), (.t 151)], some (149, true)⟩,
  ⟨some 153, .pick (.t 149) (.t 152) (.c (.bool false)), none⟩,
  ⟨some 6, .mv (.t 153), none⟩])
 (.ret))))))))))))))),
 [.tmp 6], true⟩
/-- ephemeris/ephemerislaw03.OctetTwos -/
def M10 : MFunc := ⟨.seq (.reg [⟨some 4, .mv (.c (.bool false)), none⟩])
 (.seq (.reg [⟨some 19, .mv (.t 1), none⟩,
  ⟨some 20, .bin .rem [] (.t 19) (.c (.int .u8 8)), none⟩,
  ⟨some 21, .ci .i64 (.t 20), none⟩,
  ⟨some 22, .bin .add [] (.c (.int .i64 1)) (.t 21), none⟩,
  ⟨some 5, .mv (.t 22), none⟩])
 (.seq (.reg [⟨some 23, .mv (.t 0), none⟩,
  ⟨some 24, .mv (.t 5), none⟩,
  ⟨some 25, .bin .mul [] (.c (.int .i64 8)) (.t 24), none⟩,
  ⟨some 26, .bin .sub [] (.c (.int .i64 64)) (.t 25), none⟩,
  ⟨some 27, .bin .shr [] (.t 23) (.t 26), none⟩,
  ⟨some 0, .mv (.t 27), none⟩])
 (.seq (.reg [⟨some 29, .mv (.t 0), none⟩,
  ⟨some 30, .mv (.t 5), none⟩,
  ⟨some 31, .call 48 [(.t 29), (.t 30)], none⟩,
  ⟨some 28, .mv (.t 31), none⟩,
  ⟨some 32, .ex 0 (.t 28), none⟩,
  ⟨some 33, .ex 1 (.t 28), none⟩,
  ⟨some 6, .mv (.t 32), none⟩,
  ⟨some 7, .mv (.t 33), none⟩])
 (.seq (.reg [⟨some 35, .mv (.t 6), none⟩,
  ⟨some 36, .mv (.t 5), none⟩,
  ⟨some 37, .call 50 [(.t 35), (.t 36)], none⟩,
  ⟨some 34, .mv (.t 37), none⟩,
  ⟨some 38, .ex 0 (.t 34), none⟩,
  ⟨some 39, .ex 1 (.t 34), none⟩,
  ⟨some 8, .mv (.t 38), none⟩,
  ⟨some 9, .mv (.t 39), none⟩])
 (.seq (.reg [⟨some 40, .mv (.t 5), none⟩,
  ⟨some 41, .bin .mul [] (.c (.int .i64 8)) (.t 40), none⟩,
  ⟨some 42, .bin .sub [] (.t 41) (.c (.int .i64 1)), none⟩,
  ⟨some 43, .bin .shl [] (.c (.int .u64 1)) (.t 42), none⟩,
  ⟨some 10, .mv (.t 43), none⟩])
 (.seq (.seq (.reg [⟨some 44, .mv (.t 7), none⟩,
  ⟨some 45, .bin .neq [] (.t 44) (.c (.int .i64 0)), none⟩,
  ⟨some 46, .mv (.t 45), none⟩,
  ⟨some 47, .mv (.t 9), some (46, false)⟩,
  ⟨some 48, .bin .neq [] (.t 47) (.c (.int .i64 0)), some (46, false)⟩,
  ⟨some 49, .pick (.t 46) (.c (.bool true)) (.t 48), none⟩,
  ⟨some 50, .mv (.t 49), none⟩,
  ⟨some 51, .mv (.t 8), some (50, false)⟩,
  ⟨some 52, .mv (.t 0), some (50, false)⟩,
  ⟨some 53, .bin .neq [] (.t 51) (.t 52), some (50, false)⟩,
  ⟨some 54, .pick (.t 50) (.c (.bool true)) (.t 53), none⟩,
  ⟨some 55, .mv (.t 54), none⟩,
  ⟨some 56, .mv (.t 6), some (55, false)⟩,
  ⟨some 57, .bin .lss [] (.t 56) (.c (.int .i64 0)), some (55, false)⟩,
  ⟨some 58, .mv (.t 0), some (55, false)⟩,
  ⟨some 59, .mv (.t 10), some (55, false)⟩,
  ⟨some 60, .bin .geq [] (.t 58) (.t 59), some (55, false)⟩,
  ⟨some 61, .bin .neq [1] (.t 57) (.t 60), some (55, false)⟩,
  ⟨some 62, .pick (.t 55) (.c (.bool true)) (.t 61), none⟩])
 (.cond (.t 62)
 (.seq (.reg [⟨some 4, .mv (.c (.bool false)), none⟩])
 (.ret))
 (.skip)))
 (.seq (.seq (.reg [⟨some 63, .mv (.t 5), none⟩,
  ⟨some 64, .bin .lss [] (.t 63) (.c (.int .i64 8)), none⟩])
 (.cond (.t 64)
 (.seq (.reg [⟨some 66, .mv (.t 10), none⟩,
  ⟨some 67, .ci .i64 (.t 66), none⟩,
  ⟨some 68, .mv (.t 5), none⟩,
  ⟨some 69, .call 50 [(.t 67), (.t 68)], none⟩,
  ⟨some 65, .mv (.t 69), none⟩,
  ⟨some 70, .ex 0 (.t 65), none⟩,
  ⟨some 71, .ex 1 (.t 65), none⟩,
  ⟨some 11, .mv (.t 70), none⟩,
  ⟨some 12, .mv (.t 71), none⟩])
 (.seq (.reg [⟨some 73, .mv (.t 10), none⟩,
  ⟨some 74, .ci .i64 (.t 73), none⟩,
  ⟨some 75, .un .neg (.t 74), none⟩,
  ⟨some 76, .bin .sub [] (.t 75) (.c (.int .i64 1)), none⟩,
  ⟨some 77, .mv (.t 5), none⟩,
  ⟨some 78, .call 50 [(.t 76), (.t 77)], none⟩,
  ⟨some 72, .mv (.t 78), none⟩,
  ⟨some 79, .ex 0 (.t 72), none⟩,
  ⟨some 80, .ex 1 (.t 72), none⟩,
  ⟨some 13, .mv (.t 79), none⟩,
  ⟨some 14, .mv (.t 80), none⟩])
 (.seq (.reg [⟨some 82, .mv (.t 10), none⟩,
  ⟨some 83, .ci .i64 (.t 82), none⟩,
  ⟨some 84, .un .neg (.t 83), none⟩,
  ⟨some 85, .mv (.t 5), none⟩,
  ⟨some 86, .call 50 [(.t 84), (.t 85)], none⟩,
  ⟨some 81, .mv (.t 86), none⟩,
  ⟨some 87, .ex 0 (.t 81), none⟩,
  ⟨some 88, .ex 1 (.t 81), none⟩,
  ⟨some 15, .mv (.t 87), none⟩,
  ⟨some 16, .mv (.t 88), none⟩])
 (.seq (.reg [⟨some 90, .mv (.t 10), none⟩,
  ⟨some 91, .bin .mul [] (.c (.int .u64 2)) (.t 90), none⟩,
  ⟨some 92, .mv (.t 5), none⟩,
  ⟨some 93, .call 48 [(.t 91), (.t 92)], none⟩,
  ⟨some 89, .mv (.t 93), none⟩,
  ⟨some 94, .ex 0 (.t 89), none⟩,
  ⟨some 95, .ex 1 (.t 89), none⟩,
  ⟨some 17, .mv (.t 94), none⟩,
  ⟨some 18, .mv (.t 95), none⟩])
 (.seq (.reg [⟨some 96, .mv (.t 12), none⟩,
  ⟨some 97, .bin .neq [] (.t 96) (.c (.int .i64 20)), none⟩,
  ⟨some 98, .mv (.t 97), none⟩,
  ⟨some 99, .mv (.t 14), some (98, false)⟩,
  ⟨some 100, .bin .neq [] (.t 99) (.c (.int .i64 20)), some (98, false)⟩,
  ⟨some 101, .pick (.t 98) (.c (.bool true)) (.t 100), none⟩,
  ⟨some 102, .mv (.t 101), none⟩,
  ⟨some 103, .mv (.t 16), some (102, false)⟩,
  ⟨some 104, .bin .neq [] (.t 103) (.c (.int .i64 0)), some (102, false)⟩,
  ⟨some 105, .pick (.t 102) (.c (.bool true)) (.t 104), none⟩,
  ⟨some 106, .mv (.t 105), none⟩,
  ⟨some 107, .mv (.t 15), some (106, false)⟩,
  ⟨some 108, .mv (.t 10), some (106, false)⟩,
  ⟨some 109, .bin .neq [] (.t 107) (.t 108), some (106, false)⟩,
  ⟨some 110, .pick (.t 106) (.c (.bool true)) (.t 109), none⟩,
  ⟨some 111, .mv (.t 110), none⟩,
  ⟨some 112, .mv (.t 18), some (111, false)⟩,
  ⟨some 113, .bin .neq [] (.t 112) (.c (.int .i64 20)), some (111, false)⟩,
  ⟨some 114, .pick (.t 111) (.c (.bool true)) (.t 113), none⟩,
  ⟨some 115, .mv (.t 114), none⟩,
  ⟨some 116, .mv (.t 6), some (115, false)⟩,
  ⟨some 117, .mv (.t 0), some (115, false)⟩,
  ⟨some 118, .ci .i64 (.t 117), some (115, false)⟩,
  ⟨some 119, .bin .neq [] (.t 116) (.t 118), some (115, false)⟩,
  ⟨some 120, .mv (.t 119), some (115, false)⟩,
  ⟨some 121, .mv (.t 6), some (120, true)⟩,
  ⟨some 122, .mv (.t 0), some (120, true)⟩,
  ⟨some 123, .ci .i64 (.t 122), some (120, true)⟩,
  ⟨some 124, .mv (.t 10), some (120, true)⟩,
  ⟨some 125, .bin .mul [] (.c (.int .u64 2)) (.t 124), some (120, true)⟩,
  ⟨some 126, .ci .i64 (.t 125), some (120, true)⟩,
  ⟨some 127, .bin .sub [] (.t 123) (.t 126), some (120, true)⟩,
  ⟨some 128, .bin .neq [] (.t 121) (.t 127), some (120, true)⟩,
  ⟨some 129, .pick (.t 120) (.t 128) (.c (.bool false)), some (115, false)⟩,
  ⟨some 130, .pick (.t 115) (.c (.bool true)) (.t 129), none⟩])
 (.cond (.t 130)
 (.seq (.reg [⟨some 4, .mv (.c (.bool false)), none⟩])
 (.ret))
 (.skip)))))))
 (.skip)))
 (.seq (.reg [⟨some 131, .call 43 [], none⟩,
  ⟨some 132, .mv (.t 131), none⟩,
  ⟨some 133, .mv (.t 0), some (132, true)⟩,
  ⟨some 134, .mv (.t 10), some (132, true)⟩,
  ⟨some 135, .bin .lss [] (.t 133) (.t 134), some (132, true)⟩,
  ⟨some 136, .mv (.t 135), some (132, true)⟩,
  ⟨some 137, .mv (.t 6), some (136, false)⟩,
  ⟨some 138, .un .neg (.t 137), some (136, false)⟩,
  ⟨some 139, .ci .u64 (.t 138), some (136, false)⟩,
  ⟨some 140, .mv (.t 10), some (136, false)⟩,
  ⟨some 141, .bin .mul [] (.c (.int .u64 2)) (.t 140), some (136, false)⟩,
  ⟨some 142, .mv (.t 0), some (136, false)⟩,
  ⟨some 143, .bin .sub [] (.t 141) (.t 142), some (136, false)⟩,
  ⟨some 144, .bin .eql [] (.t 139) (.t 143), some (136, false)⟩,
  ⟨some 145, .pick (.t 136) (.c (.bool true)) (.t 144), some (132, true)⟩,
  ⟨some 146, .pick (.t 132) (.t 145) (.c (.bool false)), none⟩,
  ⟨some 4, .mv (.t 146), none⟩])
 (.ret))))))))),
 [.tmp 4], true⟩
/-- ephemeris/ephemerislaw03.OctetHole -/
def M11 : MFunc := ⟨.seq (.reg [⟨some 4, .bx none 2 (.t 1), none⟩,
  ⟨some 6, .mv (.c (.bool false)), none⟩])
 (.seq (.reg [⟨some 18, .mv (.t 0), none⟩,
  ⟨some 19, .mv (.t 0), none⟩,
  ⟨some 20, .len none (.t 19), none⟩,
  ⟨some 21, .mnx false [(.t 20), (.c (.int .i64 200))], none⟩,
  ⟨some 22, .slc none 1 (.t 18) none (some (.t 21)) none, none⟩,
  ⟨some 0, .mv (.t 22), none⟩])
 (.seq (.regd [(0, ⟨some 23, .fa 0 (.t 4), none⟩),
  (1, ⟨some 24, .ld none (.t 23), none⟩),
  (2, ⟨some 25, .bin .rem [] (.t 24) (.c (.int .u8 8)), none⟩),
  (3, ⟨some 26, .ci .i64 (.t 25), none⟩),
  (4, ⟨some 27, .bin .add [] (.c (.int .i64 1)) (.t 26), none⟩),
  (5, ⟨some 28, .fa 1 (.t 4), none⟩),
  (6, ⟨some 29, .ld none (.t 28), none⟩),
  (7, ⟨some 7, .mv (.t 27), none⟩),
  (8, ⟨some 8, .mv (.t 29), none⟩)] [])
 (.seq (.reg [⟨some 30, .mv (.t 2), none⟩,
  ⟨some 31, .ci .i64 (.t 30), none⟩,
  ⟨some 32, .mv (.t 0), none⟩,
  ⟨some 33, .len none (.t 32), none⟩,
  ⟨some 34, .bin .add [] (.t 33) (.c (.int .i64 2)), none⟩,
  ⟨some 35, .bin .rem [] (.t 31) (.t 34), none⟩,
  ⟨some 9, .mv (.t 35), none⟩])
 (.seq (.reg [⟨some 37, .mv (.t 0), none⟩,
  ⟨some 38, .mv (.t 9), none⟩,
  ⟨some 39, .mv (.t 7), none⟩,
  ⟨some 40, .mv (.t 8), none⟩,
  ⟨some 41, .call 46 [(.t 37), (.t 38), (.t 39), (.t 40)], none⟩,
  ⟨some 36, .mv (.t 41), none⟩,
  ⟨some 42, .ex 0 (.t 36), none⟩,
  ⟨some 43, .ex 1 (.t 36), none⟩,
  ⟨some 10, .mv (.t 42), none⟩,
  ⟨some 11, .mv (.t 43), none⟩])
 (.seq (.reg [⟨some 45, .mv (.t 0), none⟩,
  ⟨some 46, .mv (.t 9), none⟩,
  ⟨some 47, .mv (.t 7), none⟩,
  ⟨some 48, .call 44 [(.t 45), (.t 46), (.t 47)], none⟩,
  ⟨some 44, .mv (.t 48), none⟩,
  ⟨some 49, .ex 0 (.t 44), none⟩,
  ⟨some 50, .ex 1 (.t 44), none⟩,
  ⟨some 12, .mv (.t 49), none⟩,
  ⟨some 13, .mv (.t 50), none⟩])
 (.seq (.block 0 [0, 7, 8, 9, 10, 11, 12, 13]
 (.seq (.reg [⟨some 52, .mv (.t 7), none⟩,
  ⟨some 53, .bin .lss [] (.t 52) (.c (.int .i64 8)), none⟩,
  ⟨some 54, .mv (.t 53), none⟩,
  ⟨some 55, .mv (.t 8), some (54, true)⟩,
  ⟨some 56, .mv (.t 7), some (54, true)⟩,
  ⟨some 57, .bin .mul [] (.c (.int .i64 8)) (.t 56), some (54, true)⟩,
  ⟨some 58, .bin .shr [] (.t 55) (.t 57), some (54, true)⟩,
  ⟨some 59, .bin .neq [] (.t 58) (.c (.int .u64 0)), some (54, true)⟩,
  ⟨some 60, .pick (.t 54) (.t 59) (.c (.bool false)), none⟩,
  ⟨some 51, .mv (.t 60), none⟩])
 (.cond (.t 51)
 (.seq (.reg [⟨some 61, .call 43 [], none⟩,
  ⟨some 62, .mv (.t 61), none⟩,
  ⟨some 63, .mv (.t 11), some (62, true)⟩,
  ⟨some 64, .bin .eql [] (.t 63) (.c (.int .i64 20)), some (62, true)⟩,
  ⟨some 65, .pick (.t 62) (.t 64) (.c (.bool false)), none⟩,
  ⟨some 66, .mv (.t 65), none⟩,
  ⟨some 67, .mv (.t 10), some (66, true)⟩,
  ⟨some 68, .len none (.t 67), some (66, true)⟩,
  ⟨some 69, .bin .eql [] (.t 68) (.c (.int .i64 0)), some (66, true)⟩,
  ⟨some 70, .pick (.t 66) (.t 69) (.c (.bool false)), none⟩,
  ⟨some 6, .mv (.t 70), none⟩])
 (.ret))
 (.seq (.reg [⟨some 72, .mv (.t 9), none⟩,
  ⟨some 73, .mv (.t 7), none⟩,
  ⟨some 74, .bin .add [] (.t 72) (.t 73), none⟩,
  ⟨some 75, .mv (.t 0), none⟩,
  ⟨some 76, .len none (.t 75), none⟩,
  ⟨some 77, .bin .gtr [] (.t 74) (.t 76), none⟩,
  ⟨some 71, .mv (.t 77), none⟩])
 (.cond (.t 71)
 (.seq (.reg [⟨some 78, .call 43 [], none⟩,
  ⟨some 79, .mv (.t 78), none⟩,
  ⟨some 80, .mv (.t 11), some (79, true)⟩,
  ⟨some 81, .bin .eql [] (.t 80) (.c (.int .i64 4)), some (79, true)⟩,
  ⟨some 82, .pick (.t 79) (.t 81) (.c (.bool false)), none⟩,
  ⟨some 83, .mv (.t 82), none⟩,
  ⟨some 84, .mv (.t 13), some (83, true)⟩,
  ⟨some 85, .un .not (.t 84), some (83, true)⟩,
  ⟨some 86, .pick (.t 83) (.t 85) (.c (.bool false)), none⟩,
  ⟨some 6, .mv (.t 86), none⟩])
 (.ret))
 (.skip))))))
 (.seq (.reg [⟨some 88, .mv (.t 10), none⟩,
  ⟨some 89, .mv (.t 9), none⟩,
  ⟨some 90, .mv (.t 7), none⟩,
  ⟨some 91, .call 44 [(.t 88), (.t 89), (.t 90)], none⟩,
  ⟨some 87, .mv (.t 91), none⟩,
  ⟨some 92, .ex 0 (.t 87), none⟩,
  ⟨some 93, .ex 1 (.t 87), none⟩,
  ⟨some 14, .mv (.t 92), none⟩,
  ⟨some 15, .mv (.t 93), none⟩])
 (.seq (.reg [⟨some 95, .mv (.t 10), none⟩,
  ⟨some 96, .mv (.t 9), none⟩,
  ⟨some 97, .mv (.t 7), none⟩,
  ⟨some 98, .mv (.t 12), none⟩,
  ⟨some 99, .call 46 [(.t 95), (.t 96), (.t 97), (.t 98)], none⟩,
  ⟨some 94, .mv (.t 99), none⟩,
  ⟨some 100, .ex 0 (.t 94), none⟩,
  ⟨some 101, .ex 1 (.t 94), none⟩,
  ⟨some 16, .mv (.t 100), none⟩,
  ⟨some 17, .mv (.t 101), none⟩])
 (.seq (.regd [(0, ⟨some 102, .call 43 [], none⟩),
  (1, ⟨some 103, .mv (.t 102), none⟩),
  (2, ⟨some 104, .mv (.t 11), some (103, true)⟩),
  (3, ⟨some 105, .bin .eql [] (.t 104) (.c (.int .i64 0)), some (103, true)⟩),
  (4, ⟨some 106, .pick (.t 103) (.t 105) (.c (.bool false)), none⟩),
  (5, ⟨some 107, .mv (.t 106), none⟩),
  (6, ⟨some 108, .mv (.t 13), some (107, true)⟩),
  (7, ⟨some 109, .pick (.t 107) (.t 108) (.c (.bool false)), none⟩),
  (8, ⟨some 110, .mv (.t 109), none⟩),
  (9, ⟨some 111, .mv (.t 15), some (110, true)⟩),
  (10, ⟨some 112, .pick (.t 110) (.t 111) (.c (.bool false)), none⟩),
  (11, ⟨some 113, .mv (.t 112), none⟩),
  (12, ⟨some 114, .mv (.t 14), some (113, true)⟩),
  (13, ⟨some 115, .mv (.t 8), some (113, true)⟩),
  (14, ⟨some 116, .bin .eql [] (.t 114) (.t 115), some (113, true)⟩),
  (15, ⟨some 117, .pick (.t 113) (.t 116) (.c (.bool false)), none⟩),
  (16, ⟨some 118, .mv (.t 117), none⟩),
  (17, ⟨some 119, .mv (.t 10), some (118, true)⟩),
  (18, ⟨some 120, .len none (.t 119), some (118, true)⟩),
  (19, ⟨some 121, .mv (.t 0), some (118, true)⟩),
  (20, ⟨some 122, .len none (.t 121), some (118, true)⟩),
  (21, ⟨some 123, .bin .eql [] (.t 120) (.t 122), some (118, true)⟩),
  (22, ⟨some 124, .pick (.t 118) (.t 123) (.c (.bool false)), none⟩),
  (23, ⟨some 125, .mv (.t 124), none⟩),
  (24, ⟨some 126, .mv (.t 10), some (125, true)⟩),
  (25, ⟨some 127, .mv (.t 9), some (125, true)⟩),
  (26, ⟨some 128, .slc none 1 (.t 126) none (some (.t 127)) none, some (125, true)⟩),
  (27, ⟨some 129, .mv (.t 0), some (125, true)⟩),
  (28, ⟨some 130, .mv (.t 9), some (125, true)⟩),
  (29, ⟨some 131, .slc none 1 (.t 129) none (some (.t 130)) none, some (125, true)⟩),
  (30, ⟨some 132, .call 41 [(.t 128), (.t 131)], some (125, true)⟩),
  (31, ⟨some 133, .pick (.t 125) (.t 132) (.c (.bool false)), none⟩),
  (32, ⟨some 134, .mv (.t 133), none⟩),
  (33, ⟨some 135, .mv (.t 10), some (134, true)⟩),
  (34, ⟨some 136, .mv (.t 9), some (134, true)⟩),
  (35, ⟨some 137, .mv (.t 7), some (134, true)⟩),
  (36, ⟨some 138, .bin .add [] (.t 136) (.t 137), some (134, true)⟩),
  (37, ⟨some 139, .slc none 1 (.t 135) (some (.t 138)) none none, some (134, true)⟩),
  (38, ⟨some 140, .mv (.t 0), some (134, true)⟩),
  (39, ⟨some 141, .mv (.t 9), some (134, true)⟩),
  (40, ⟨some 142, .mv (.t 7), some (134, true)⟩),
  (41, ⟨some 143, .bin .add [] (.t 141) (.t 142), some (134, true)⟩),
  (42, ⟨some 144, .slc none 1 (.t 140) (some (.t 143)) none none, some (134, true)⟩),
  (43, ⟨some 145, .call 41 [(.t 139), (.t 144)], some (134, true)⟩),
  (44, ⟨some 146, .pick (.t 134) (.t 145) (.c (.bool false)), none⟩),
  (45, ⟨some 147, .mv (.t 146), none⟩),
  (46, ⟨some 148, .mv (.t 17), some (147, true)⟩),
  (47, ⟨some 149, .bin .eql [] (.t 148) (.c (.int .i64 0)), some (147, true)⟩),
  (48, ⟨some 150, .pick (.t 147) (.t 149) (.c (.bool false)), none⟩),
  (49, ⟨some 151, .mv (.t 150), none⟩),
  (50, ⟨some 152, .mv (.t 16), some (151, true)⟩),
  (51, ⟨some 153, .mv (.t 0), some (151, true)⟩),
  (52, ⟨some 154, .call 41 [(.t 152), (.t 153)], some (151, true)⟩),
  (53, ⟨some 155, .pick (.t 151) (.t 154) (.c (.bool false)), none⟩),
  (54, ⟨some 6, .mv (.t 155), none⟩)] [])
 (.ret)))))))))),
 [.tmp 6], true⟩
/-- ephemeris/ephemerislaw03.OctetKnown -/
def M12 : MFunc := ⟨.seq (.reg [⟨some 0, .mv (.c (.bool false)), none⟩])
 (.seq (.reg [⟨some 40, .bsl (.ints .i64 [0]) 2 1 [(0, 1, (.c (.int .i64 1))), (1, 1, (.c (.int .i64 0)))], none⟩,
  ⟨some 41, .call 39 [(.t 40)], none⟩,
  ⟨some 39, .mv (.t 41), none⟩,
  ⟨some 42, .ex 0 (.t 39), none⟩,
  ⟨some 43, .ex 1 (.t 39), none⟩,
  ⟨some 1, .mv (.t 42), none⟩,
  ⟨some 2, .mv (.t 43), none⟩])
 (.seq (.reg [⟨some 45, .bsl (.ints .i64 [0]) 1 1 [(0, 1, (.c (.int .i64 9)))], none⟩,
  ⟨some 46, .call 39 [(.t 45)], none⟩,
  ⟨some 44, .mv (.t 46), none⟩,
  ⟨some 47, .ex 0 (.t 44), none⟩,
  ⟨some 48, .ex 1 (.t 44), none⟩,
  ⟨some 3, .mv (.t 47), none⟩,
  ⟨some 4, .mv (.t 48), none⟩])
 (.seq (.reg [⟨some 50, .call 39 [(.c .nils)], none⟩,
  ⟨some 49, .mv (.t 50), none⟩,
  ⟨some 51, .ex 0 (.t 49), none⟩,
  ⟨some 52, .ex 1 (.t 49), none⟩,
  ⟨some 5, .mv (.t 51), none⟩,
  ⟨some 6, .mv (.t 52), none⟩])
 (.seq (.reg [⟨some 54, .bsl (.ints .i64 [0]) 1 1 [(0, 1, (.c (.int .i64 1)))], none⟩,
  ⟨some 55, .call 35 [(.t 54), (.c .nils)], none⟩,
  ⟨some 53, .mv (.t 55), none⟩,
  ⟨some 56, .ex 0 (.t 53), none⟩,
  ⟨some 57, .ex 1 (.t 53), none⟩,
  ⟨some 7, .mv (.t 56), none⟩,
  ⟨some 8, .mv (.t 57), none⟩])
 (.seq (.reg [⟨some 59, .bsl (.ints .u64 [0]) 1 1 [(0, 1, (.c (.int .u64 1)))], none⟩,
  ⟨some 60, .call 35 [(.c .nils), (.t 59)], none⟩,
  ⟨some 58, .mv (.t 60), none⟩,
  ⟨some 61, .ex 0 (.t 58), none⟩,
  ⟨some 62, .ex 1 (.t 58), none⟩,
  ⟨some 9, .mv (.t 61), none⟩,
  ⟨some 10, .mv (.t 62), none⟩])
 (.seq (.reg [⟨some 64, .bsl (.ints .i64 [0]) 1 1 [(0, 1, (.c (.int .i64 (-1))))], none⟩,
  ⟨some 65, .call 37 [(.t 64), (.c .nils)], none⟩,
  ⟨some 63, .mv (.t 65), none⟩,
  ⟨some 66, .ex 0 (.t 63), none⟩,
  ⟨some 67, .ex 1 (.t 63), none⟩,
  ⟨some 68, .ex 2 (.t 63), none⟩,
  ⟨some 11, .mv (.t 66), none⟩,
  ⟨some 12, .mv (.t 67), none⟩,
  ⟨some 13, .mv (.t 68), none⟩])
 (.seq (.reg [⟨some 70, .bsl (.ints .u8 [0]) 1 1 [(0, 1, (.c (.int .u8 1)))], none⟩,
  ⟨some 71, .call 37 [(.c .nils), (.t 70)], none⟩,
  ⟨some 69, .mv (.t 71), none⟩,
  ⟨some 72, .ex 0 (.t 69), none⟩,
  ⟨some 73, .ex 1 (.t 69), none⟩,
  ⟨some 74, .ex 2 (.t 69), none⟩,
  ⟨some 14, .mv (.t 72), none⟩,
  ⟨some 15, .mv (.t 73), none⟩,
  ⟨some 16, .mv (.t 74), none⟩])
 (.seq (.reg [⟨some 76, .bsl (.ints .u8 [0]) 2 1 [(0, 1, (.c (.int .u8 1))), (1, 1, (.c (.int .u8 2)))], none⟩,
  ⟨some 77, .call 44 [(.t 76), (.c (.int .i64 1)), (.c (.int .i64 2))], none⟩,
  ⟨some 75, .mv (.t 77), none⟩,
  ⟨some 78, .ex 0 (.t 75), none⟩,
  ⟨some 79, .ex 1 (.t 75), none⟩,
  ⟨some 17, .mv (.t 78), none⟩,
  ⟨some 18, .mv (.t 79), none⟩])
 (.seq (.reg [⟨some 81, .bsl (.ints .u8 [0]) 2 1 [(0, 1, (.c (.int .u8 1))), (1, 1, (.c (.int .u8 2)))], none⟩,
  ⟨some 82, .call 44 [(.t 81), (.c (.int .i64 (-1))), (.c (.int .i64 1))], none⟩,
  ⟨some 80, .mv (.t 82), none⟩,
  ⟨some 83, .ex 0 (.t 80), none⟩,
  ⟨some 84, .ex 1 (.t 80), none⟩,
  ⟨some 19, .mv (.t 83), none⟩,
  ⟨some 20, .mv (.t 84), none⟩])
 (.seq (.reg [⟨some 86, .bsl (.ints .u8 [0]) 2 1 [(0, 1, (.c (.int .u8 1))), (1, 1, (.c (.int .u8 2)))], none⟩,
  ⟨some 87, .call 44 [(.t 86), (.c (.int .i64 4611686018427387904)), (.c (.int .i64 1))], none⟩,
  ⟨some 85, .mv (.t 87), none⟩,
  ⟨some 88, .ex 0 (.t 85), none⟩,
  ⟨some 89, .ex 1 (.t 85), none⟩,
  ⟨some 21, .mv (.t 88), none⟩,
  ⟨some 22, .mv (.t 89), none⟩])
 (.seq (.reg [⟨some 91, .call 46 [(.c .nils), (.c (.int .i64 (-1))), (.c (.int .i64 1)), (.c (.int .u64 0))], none⟩,
  ⟨some 90, .mv (.t 91), none⟩,
  ⟨some 92, .ex 0 (.t 90), none⟩,
  ⟨some 93, .ex 1 (.t 90), none⟩,
  ⟨some 23, .mv (.t 92), none⟩,
  ⟨some 24, .mv (.t 93), none⟩])
 (.seq (.reg [⟨some 95, .call 46 [(.c .nils), (.c (.int .i64 0)), (.c (.int .i64 9)), (.c (.int .u64 0))], none⟩,
  ⟨some 94, .mv (.t 95), none⟩,
  ⟨some 96, .ex 0 (.t 94), none⟩,
  ⟨some 97, .ex 1 (.t 94), none⟩,
  ⟨some 25, .mv (.t 96), none⟩,
  ⟨some 26, .mv (.t 97), none⟩])
 (.seq (.reg [⟨some 99, .bsl (.ints .u8 [0]) 1 1 [(0, 1, (.c (.int .u8 0)))], none⟩,
  ⟨some 100, .call 46 [(.t 99), (.c (.int .i64 0)), (.c (.int .i64 1)), (.c (.int .u64 256))], none⟩,
  ⟨some 98, .mv (.t 100), none⟩,
  ⟨some 101, .ex 0 (.t 98), none⟩,
  ⟨some 102, .ex 1 (.t 98), none⟩,
  ⟨some 27, .mv (.t 101), none⟩,
  ⟨some 28, .mv (.t 102), none⟩])
 (.seq (.reg [⟨some 104, .bsl (.ints .u8 [0]) 1 1 [(0, 1, (.c (.int .u8 0)))], none⟩,
  ⟨some 105, .call 46 [(.t 104), (.c (.int .i64 0)), (.c (.int .i64 2)), (.c (.int .u64 0))], none⟩,
  ⟨some 103, .mv (.t 105), none⟩,
  ⟨some 106, .ex 0 (.t 103), none⟩,
  ⟨some 107, .ex 1 (.t 103), none⟩,
  ⟨some 29, .mv (.t 106), none⟩,
  ⟨some 30, .mv (.t 107), none⟩])
 (.seq (.reg [⟨some 109, .call 48 [(.c (.int .u64 18446744073709551615)), (.c (.int .i64 8))], none⟩,
  ⟨some 108, .mv (.t 109), none⟩,
  ⟨some 110, .ex 0 (.t 108), none⟩,
  ⟨some 111, .ex 1 (.t 108), none⟩,
  ⟨some 31, .mv (.t 110), none⟩,
  ⟨some 32, .mv (.t 111), none⟩])
 (.seq (.reg [⟨some 113, .call 50 [(.c (.int .i64 (-9223372036854775808))), (.c (.int .i64 8))], none⟩,
  ⟨some 112, .mv (.t 113), none⟩,
  ⟨some 114, .ex 0 (.t 112), none⟩,
  ⟨some 115, .ex 1 (.t 112), none⟩,
  ⟨some 33, .mv (.t 114), none⟩,
  ⟨some 34, .mv (.t 115), none⟩])
 (.seq (.reg [⟨some 117, .call 48 [(.c (.int .u64 0)), (.c (.int .i64 0))], none⟩,
  ⟨some 116, .mv (.t 117), none⟩,
  ⟨some 118, .ex 0 (.t 116), none⟩,
  ⟨some 119, .ex 1 (.t 116), none⟩,
  ⟨some 35, .mv (.t 118), none⟩,
  ⟨some 36, .mv (.t 119), none⟩])
 (.seq (.reg [⟨some 121, .call 50 [(.c (.int .i64 0)), (.c (.int .i64 9))], none⟩,
  ⟨some 120, .mv (.t 121), none⟩,
  ⟨some 122, .ex 0 (.t 120), none⟩,
  ⟨some 123, .ex 1 (.t 120), none⟩,
  ⟨some 37, .mv (.t 122), none⟩,
  ⟨some 38, .mv (.t 123), none⟩])
 (.seq (.reg [⟨some 124, .mv (.c (.bool true)), none⟩,
  ⟨some 125, .call 43 [], some (124, true)⟩,
  ⟨some 126, .pick (.t 124) (.t 125) (.c (.bool false)), none⟩,
  ⟨some 127, .mv (.t 126), none⟩,
  ⟨some 128, .mv (.t 2), some (127, true)⟩,
  ⟨some 129, .bin .eql [] (.t 128) (.c (.int .i64 1)), some (127, true)⟩,
  ⟨some 130, .pick (.t 127) (.t 129) (.c (.bool false)), none⟩,
  ⟨some 131, .mv (.t 130), none⟩,
  ⟨some 132, .mv (.t 4), some (131, true)⟩,
  ⟨some 133, .bin .eql [] (.t 132) (.c (.int .i64 1)), some (131, true)⟩,
  ⟨some 134, .pick (.t 131) (.t 133) (.c (.bool false)), none⟩,
  ⟨some 135, .mv (.t 134), none⟩,
  ⟨some 136, .mv (.t 6), some (135, true)⟩,
  ⟨some 137, .bin .eql [] (.t 136) (.c (.int .i64 0)), some (135, true)⟩,
  ⟨some 138, .pick (.t 135) (.t 137) (.c (.bool false)), none⟩,
  ⟨some 139, .mv (.t 138), none⟩,
  ⟨some 140, .mv (.t 5), some (139, true)⟩,
  ⟨some 141, .bin .eql [] (.t 140) (.c (.int .i64 0)), some (139, true)⟩,
  ⟨some 142, .pick (.t 139) (.t 141) (.c (.bool false)), none⟩,
  ⟨some 143, .mv (.t 142), none⟩,
  ⟨some 144, .mv (.t 8), some (143, true)⟩,
  ⟨some 145, .bin .eql [] (.t 144) (.c (.int .i64 1)), some (143, true)⟩,
  ⟨some 146, .pick (.t 143) (.t 145) (.c (.bool false)), none⟩,
  ⟨some 147, .mv (.t 146), none⟩,
  ⟨some 148, .mv (.t 10), some (147, true)⟩,
  ⟨some 149, .bin .eql [] (.t 148) (.c (.int .i64 1)), some (147, true)⟩,
  ⟨some 150, .pick (.t 147) (.t 149) (.c (.bool false)), none⟩,
  ⟨some 151, .mv (.t 150), none⟩,
  ⟨some 152, .mv (.t 13), some (151, true)⟩,
  ⟨some 153, .bin .eql [] (.t 152) (.c (.int .i64 1)), some (151, true)⟩,
  ⟨some 154, .pick (.t 151) (.t 153) (.c (.bool false)), none⟩,
  ⟨some 155, .mv (.t 154), none⟩,
  ⟨some 156, .mv (.t 16), some (155, true)⟩,
  ⟨some 157, .bin .eql [] (.t 156) (.c (.int .i64 0)), some (155, true)⟩,
  ⟨some 158, .pick (.t 155) (.t 157) (.c (.bool false)), none⟩,
  ⟨some 159, .mv (.t 158), none⟩,
  ⟨some 160, .mv (.t 14), some (159, true)⟩,
  ⟨some 161, .len none (.t 160), some (159, true)⟩,
  ⟨some 162, .bin .eql [] (.t 161) (.c (.int .i64 0)), some (159, true)⟩,
  ⟨some 163, .pick (.t 159) (.t 162) (.c (.bool false)), none⟩,
  ⟨some 164, .mv (.t 163), none⟩,
  ⟨some 165, .mv (.t 15), some (164, true)⟩,
  ⟨some 166, .len none (.t 165), some (164, true)⟩,
  ⟨some 167, .bin .eql [] (.t 166) (.c (.int .i64 1)), some (164, true)⟩,
  ⟨some 168, .pick (.t 164) (.t 167) (.c (.bool false)), none⟩,
  ⟨some 169, .mv (.t 168), none⟩,
  ⟨some 170, .mv (.t 18), some (169, true)⟩,
  ⟨some 171, .un .not (.t 170), some (169, true)⟩,
  ⟨some 172, .pick (.t 169) (.t 171) (.c (.bool false)), none⟩,
  ⟨some 173, .mv (.t 172), none⟩,
  ⟨some 174, .mv (.t 20), some (173, true)⟩,
  ⟨some 175, .un .not (.t 174), some (173, true)⟩,
  ⟨some 176, .pick (.t 173) (.t 175) (.c (.bool false)), none⟩,
  ⟨some 177, .mv (.t 176), none⟩,
  ⟨some 178, .mv (.t 22), some (177, true)⟩,
  ⟨some 179, .un .not (.t 178), some (177, true)⟩,
  ⟨some 180, .pick (.t 177) (.t 179) (.c (.bool false)), none⟩,
  ⟨some 181, .mv (.t 180), none⟩,
  ⟨some 182, .mv (.t 24), some (181, true)⟩,
  ⟨some 183, .bin .eql [] (.t 182) (.c (.int .i64 1)), some (181, true)⟩,
  ⟨some 184, .pick (.t 181) (.t 183) (.c (.bool false)), none⟩,
  ⟨some 185, .mv (.t 184), none⟩,
  ⟨some 186, .mv (.t 26), some (185, true)⟩,
  ⟨some 187, .bin .eql [] (.t 186) (.c (.int .i64 1)), some (185, true)⟩,
  ⟨some 188, .pick (.t 185) (.t 187) (.c (.bool false)), none⟩,
  ⟨some 189, .mv (.t 188), none⟩,
  ⟨some 190, .mv (.t 28), some (189, true)⟩,
  ⟨some 191, .bin .eql [] (.t 190) (.c (.int .i64 20)), some (189, true)⟩,
  ⟨some 192, .pick (.t 189) (.t 191) (.c (.bool false)), none⟩,
  ⟨some 193, .mv (.t 192), none⟩,
  ⟨some 194, .mv (.t 30), some (193, true)⟩,
  ⟨some 195, .bin .eql [] (.t 194) (.c (.int .i64 4)), some (193, true)⟩,
  ⟨some 196, .pick (.t 193) (.t 195) (.c (.bool false)), none⟩,
  ⟨some 197, .mv (.t 196), none⟩,
  ⟨some 198, .mv (.t 32), some (197, true)⟩,
  ⟨some 199, .bin .eql [] (.t 198) (.c (.int .i64 0)), some (197, true)⟩,
  ⟨some 200, .pick (.t 197) (.t 199) (.c (.bool false)), none⟩,
  ⟨some 201, .mv (.t 200), none⟩,
  ⟨some 202, .mv (.t 31), some (201, true)⟩,
  ⟨some 203, .bin .eql [] (.t 202) (.c (.int .i64 (-1))), some (201, true)⟩,
  ⟨some 204, .pick (.t 201) (.t 203) (.c (.bool false)), none⟩,
  ⟨some 205, .mv (.t 204), none⟩,
  ⟨some 206, .mv (.t 34), some (205, true)⟩,
  ⟨some 207, .bin .eql [] (.t 206) (.c (.int .i64 0)), some (205, true)⟩,
  ⟨some 208, .pick (.t 205) (.t 207) (.c (.bool false)), none⟩,
  ⟨some 209, .mv (.t 208), none⟩,
  ⟨some 210, .mv (.t 33), some (209, true)⟩,
  ⟨some 211, .bin .eql [] (.t 210) (.c (.int .u64 9223372036854775808)), some (209, true)⟩,
  ⟨some 212, .pick (.t 209) (.t 211) (.c (.bool false)), none⟩,
  ⟨some 213, .mv (.t 212), none⟩,
  ⟨some 214, .mv (.t 36), some (213, true)⟩,
  ⟨some 215, .bin .eql [] (.t 214) (.c (.int .i64 1)), some (213, true)⟩,
  ⟨some 216, .pick (.t 213) (.t 215) (.c (.bool false)), none⟩,
  ⟨some 217, .mv (.t 216), none⟩,
  ⟨some 218, .mv (.t 38), some (217, true)⟩,
  ⟨some 219, .bin .eql [] (.t 218) (.c (.int .i64 1)), some (217, true)⟩,
  ⟨some 220, .pick (.t 217) (.t 219) (.c (.bool false)), none⟩,
  ⟨some 0, .mv (.t 220), none⟩])
 (.ret)))))))))))))))))))),
 [.tmp 0], true⟩
/-- ephemeris/ephemerislaw03.OctetOrder -/
def M13 : MFunc := ⟨.seq (.reg [⟨some 6, .mv (.c (.bool false)), none⟩])
 (.seq (.reg [⟨some 17, .mv (.t 0), none⟩,
  ⟨some 18, .call 52 [(.t 17)], none⟩,
  ⟨some 16, .mv (.t 18), none⟩,
  ⟨some 19, .ex 0 (.t 16), none⟩,
  ⟨some 20, .ex 1 (.t 16), none⟩,
  ⟨some 7, .mv (.t 19), none⟩,
  ⟨some 8, .mv (.t 20), none⟩])
 (.seq (.seq (.reg [⟨some 21, .mv (.t 8), none⟩,
  ⟨some 22, .len none (.t 21), none⟩,
  ⟨some 23, .bin .eql [] (.t 22) (.c (.int .i64 0)), none⟩])
 (.cond (.t 23)
 (.seq (.reg [⟨some 24, .call 43 [], none⟩,
  ⟨some 6, .mv (.t 24), none⟩])
 (.ret))
 (.skip)))
 (.seq (.reg [⟨some 25, .mv (.t 1), none⟩,
  ⟨some 26, .ci .i64 (.t 25), none⟩,
  ⟨some 27, .mv (.t 8), none⟩,
  ⟨some 28, .len none (.t 27), none⟩,
  ⟨some 29, .bin .rem [] (.t 26) (.t 28), none⟩,
  ⟨some 9, .mv (.t 29), none⟩])
 (.seq (.reg [⟨some 30, .mv (.t 8), none⟩,
  ⟨some 31, .call 53 [(.t 30)], none⟩,
  ⟨some 10, .mv (.t 31), none⟩])
 (.seq (.reg [⟨some 32, .mv (.t 10), none⟩,
  ⟨some 33, .mv (.t 9), none⟩,
  ⟨some 34, .mv (.t 2), none⟩,
  ⟨some 35, .mv (.t 7), none⟩,
  ⟨some 36, .mv (.t 9), none⟩,
  ⟨some 37, .ia none 1 (.t 35) (.t 36), none⟩,
  ⟨some 38, .ld none (.t 37), none⟩,
  ⟨some 39, .bin .mul [] (.c (.int .i64 8)) (.t 38), none⟩,
  ⟨some 40, .bin .sub [] (.c (.int .i64 64)) (.t 39), none⟩,
  ⟨some 41, .bin .shr [] (.t 34) (.t 40), none⟩,
  ⟨some 42, .ia none 1 (.t 32) (.t 33), none⟩,
  ⟨none, .st 1 (.t 42) (.t 41), none⟩])
 (.seq (.reg [⟨some 44, .mv (.t 7), none⟩,
  ⟨some 45, .mv (.t 8), none⟩,
  ⟨some 46, .call 35 [(.t 44), (.t 45)], none⟩,
  ⟨some 43, .mv (.t 46), none⟩,
  ⟨some 47, .ex 0 (.t 43), none⟩,
  ⟨some 48, .ex 1 (.t 43), none⟩,
  ⟨some 11, .mv (.t 47), none⟩,
  ⟨some 12, .mv (.t 48), none⟩])
 (.seq (.reg [⟨some 50, .mv (.t 7), none⟩,
  ⟨some 51, .mv (.t 10), none⟩,
  ⟨some 52, .call 35 [(.t 50), (.t 51)], none⟩,
  ⟨some 49, .mv (.t 52), none⟩,
  ⟨some 53, .ex 0 (.t 49), none⟩,
  ⟨some 54, .ex 1 (.t 49), none⟩,
  ⟨some 13, .mv (.t 53), none⟩,
  ⟨some 14, .mv (.t 54), none⟩])
 (.seq (.reg [⟨some 55, .mv (.t 11), none⟩,
  ⟨some 56, .mv (.t 13), none⟩,
  ⟨some 57, .call 54 [(.t 55), (.t 56)], none⟩,
  ⟨some 15, .mv (.t 57), none⟩])
 (.seq (.regd [(0, ⟨some 58, .call 43 [], none⟩),
  (1, ⟨some 59, .mv (.t 58), none⟩),
  (2, ⟨some 60, .mv (.t 12), some (59, true)⟩),
  (3, ⟨some 61, .bin .eql [] (.t 60) (.c (.int .i64 0)), some (59, true)⟩),
  (4, ⟨some 62, .pick (.t 59) (.t 61) (.c (.bool false)), none⟩),
  (5, ⟨some 63, .mv (.t 62), none⟩),
  (6, ⟨some 64, .mv (.t 14), some (63, true)⟩),
  (7, ⟨some 65, .bin .eql [] (.t 64) (.c (.int .i64 0)), some (63, true)⟩),
  (8, ⟨some 66, .pick (.t 63) (.t 65) (.c (.bool false)), none⟩),
  (9, ⟨some 67, .mv (.t 66), none⟩),
  (10, ⟨some 68, .mv (.t 15), some (67, true)⟩),
  (11, ⟨some 69, .bin .lss [] (.t 68) (.c (.int .i64 0)), some (67, true)⟩),
  (12, ⟨some 70, .mv (.t 8), some (67, true)⟩),
  (13, ⟨some 71, .mv (.t 9), some (67, true)⟩),
  (14, ⟨some 72, .ia none 1 (.t 70) (.t 71), some (67, true)⟩),
  (15, ⟨some 73, .ld none (.t 72), some (67, true)⟩),
  (16, ⟨some 74, .mv (.t 10), some (67, true)⟩),
  (17, ⟨some 75, .mv (.t 9), some (67, true)⟩),
  (18, ⟨some 76, .ia none 1 (.t 74) (.t 75), some (67, true)⟩),
  (19, ⟨some 77, .ld none (.t 76), some (67, true)⟩),
  (20, ⟨some 78, .bin .lss [] (.t 73) (.t 77), some (67, true)⟩),
  (21, ⟨some 79, .bin .eql [1] (.t 69) (.t 78), some (67, true)⟩),
  (22, ⟨some 80, .pick (.t 67) (.t 79) (.c (.bool false)), none⟩),
  (23, ⟨some 81, .mv (.t 80), none⟩),
  (24, ⟨some 82, .mv (.t 15), some (81, true)⟩),
  (25, ⟨some 83, .bin .eql [] (.t 82) (.c (.int .i64 0)), some (81, true)⟩),
  (26, ⟨some 84, .mv (.t 8), some (81, true)⟩),
  (27, ⟨some 85, .mv (.t 9), some (81, true)⟩),
  (28, ⟨some 86, .ia none 1 (.t 84) (.t 85), some (81, true)⟩),
  (29, ⟨some 87, .ld none (.t 86), some (81, true)⟩),
  (30, ⟨some 88, .mv (.t 10), some (81, true)⟩),
  (31, ⟨some 89, .mv (.t 9), some (81, true)⟩),
  (32, ⟨some 90, .ia none 1 (.t 88) (.t 89), some (81, true)⟩),
  (33, ⟨some 91, .ld none (.t 90), some (81, true)⟩),
  (34, ⟨some 92, .bin .eql [] (.t 87) (.t 91), some (81, true)⟩),
  (35, ⟨some 93, .bin .eql [1] (.t 83) (.t 92), some (81, true)⟩),
  (36, ⟨some 94, .pick (.t 81) (.t 93) (.c (.bool false)), none⟩),
  (37, ⟨some 6, .mv (.t 94), none⟩)] [])
 (.ret)))))))))),
 [.tmp 6], true⟩
/-- ephemeris/ephemerislaw03.OctetBack -/
def M14 : MFunc := ⟨.seq (.reg [⟨some 6, .mv (.c (.bool false)), none⟩])
 (.seq (.reg [⟨some 30, .mv (.t 1), none⟩,
  ⟨some 31, .mv (.t 1), none⟩,
  ⟨some 32, .len none (.t 31), none⟩,
  ⟨some 33, .mv (.t 2), none⟩,
  ⟨some 34, .ci .i64 (.t 33), none⟩,
  ⟨some 35, .mnx false [(.t 32), (.t 34)], none⟩,
  ⟨some 36, .slc none 1 (.t 30) none (some (.t 35)) none, none⟩,
  ⟨some 7, .mv (.t 36), none⟩])
 (.seq (.reg [⟨some 38, .mv (.t 0), none⟩,
  ⟨some 39, .call 52 [(.t 38)], none⟩,
  ⟨some 37, .mv (.t 39), none⟩,
  ⟨some 40, .ex 0 (.t 37), none⟩,
  ⟨some 41, .ex 1 (.t 37), none⟩,
  ⟨some 8, .mv (.t 40), none⟩,
  ⟨some 9, .mv (.t 41), none⟩])
 (.seq (.reg [⟨some 43, .mv (.t 8), none⟩,
  ⟨some 44, .mv (.t 9), none⟩,
  ⟨some 45, .call 35 [(.t 43), (.t 44)], none⟩,
  ⟨some 42, .mv (.t 45), none⟩,
  ⟨some 46, .ex 0 (.t 42), none⟩,
  ⟨some 47, .ex 1 (.t 42), none⟩,
  ⟨some 10, .mv (.t 46), none⟩,
  ⟨some 11, .mv (.t 47), none⟩])
 (.seq (.reg [⟨some 49, .mv (.t 8), none⟩,
  ⟨some 50, .call 39 [(.t 49)], none⟩,
  ⟨some 48, .mv (.t 50), none⟩,
  ⟨some 51, .ex 0 (.t 48), none⟩,
  ⟨some 52, .ex 1 (.t 48), none⟩,
  ⟨some 12, .mv (.t 51), none⟩,
  ⟨some 13, .mv (.t 52), none⟩])
 (.seq (.seq (.reg [⟨some 53, .mv (.t 11), none⟩,
  ⟨some 54, .bin .neq [] (.t 53) (.c (.int .i64 0)), none⟩,
  ⟨some 55, .mv (.t 54), none⟩,
  ⟨some 56, .mv (.t 13), some (55, false)⟩,
  ⟨some 57, .bin .neq [] (.t 56) (.c (.int .i64 0)), some (55, false)⟩,
  ⟨some 58, .pick (.t 55) (.c (.bool true)) (.t 57), none⟩,
  ⟨some 59, .mv (.t 58), none⟩,
  ⟨some 60, .mv (.t 10), some (59, false)⟩,
  ⟨some 61, .len none (.t 60), some (59, false)⟩,
  ⟨some 62, .mv (.t 12), some (59, false)⟩,
  ⟨some 63, .bin .neq [] (.t 61) (.t 62), some (59, false)⟩,
  ⟨some 64, .pick (.t 59) (.c (.bool true)) (.t 63), none⟩])
 (.cond (.t 64)
 (.seq (.reg [⟨some 6, .mv (.c (.bool false)), none⟩])
 (.ret))
 (.skip)))
 (.seq (.reg [⟨some 66, .mv (.t 8), none⟩,
  ⟨some 67, .mv (.t 10), none⟩,
  ⟨some 68, .call 55 [(.t 67)], none⟩,
  ⟨some 69, .mv (.t 7), none⟩,
  ⟨some 70, .app (.ints .u8 [0]) 1 (.t 68) (.t 69), none⟩,
  ⟨some 71, .call 37 [(.t 66), (.t 70)], none⟩,
  ⟨some 65, .mv (.t 71), none⟩,
  ⟨some 72, .ex 0 (.t 65), none⟩,
  ⟨some 73, .ex 1 (.t 65), none⟩,
  ⟨some 74, .ex 2 (.t 65), none⟩,
  ⟨some 14, .mv (.t 72), none⟩,
  ⟨some 15, .mv (.t 73), none⟩,
  ⟨some 16, .mv (.t 74), none⟩])
 (.seq (.seq (.reg [⟨some 75, .mv (.t 16), none⟩,
  ⟨some 76, .bin .neq [] (.t 75) (.c (.int .i64 0)), none⟩,
  ⟨some 77, .mv (.t 76), none⟩,
  ⟨some 78, .mv (.t 14), some (77, false)⟩,
  ⟨some 79, .mv (.t 9), some (77, false)⟩,
  ⟨some 80, .call 42 [(.t 78), (.t 79)], some (77, false)⟩,
  ⟨some 81, .un .not (.t 80), some (77, false)⟩,
  ⟨some 82, .pick (.t 77) (.c (.bool true)) (.t 81), none⟩,
  ⟨some 83, .mv (.t 82), none⟩,
  ⟨some 84, .mv (.t 15), some (83, false)⟩,
  ⟨some 85, .mv (.t 7), some (83, false)⟩,
  ⟨some 86, .call 41 [(.t 84), (.t 85)], some (83, false)⟩,
  ⟨some 87, .un .not (.t 86), some (83, false)⟩,
  ⟨some 88, .pick (.t 83) (.c (.bool true)) (.t 87), none⟩])
 (.cond (.t 88)
 (.seq (.reg [⟨some 6, .mv (.c (.bool false)), none⟩])
 (.ret))
 (.skip)))
 (.seq (.reg [⟨some 17, .mv (.c (.int .i64 0)), none⟩])
 (.seq (.seq (.reg [⟨some 89, .mv (.t 8), none⟩,
  ⟨some 90, .len none (.t 89), none⟩,
  ⟨some 91, .mv (.c (.int .i64 0)), none⟩])
 (.block 0 [1, 2, 8, 10, 12]
 (.loop [1, 2, 8, 9, 10, 12, 17, 89, 90, 91]
 (.seq (.reg [⟨some 92, .bin .lss [] (.t 91) (.t 90), none⟩])
 (.seq (.cond (.t 92)
 (.skip)
 (.exit 0))
 (.seq (.block 1 [1, 2, 8, 9, 10, 12, 17, 89, 90, 91]
 (.seq (.reg [⟨some 93, .mv (.t 91), none⟩,
  ⟨some 94, .ia none 1 (.t 89) (.t 91), none⟩,
  ⟨some 95, .ld none (.t 94), none⟩,
  ⟨some 18, .mv (.t 93), none⟩,
  ⟨some 19, .mv (.t 95), none⟩])
 (.seq (.seq (.reg [⟨some 97, .mv (.t 10), none⟩,
  ⟨some 98, .mv (.t 17), none⟩,
  ⟨some 99, .mv (.t 19), none⟩,
  ⟨some 100, .call 44 [(.t 97), (.t 98), (.t 99)], none⟩,
  ⟨some 96, .mv (.t 100), none⟩,
  ⟨some 101, .ex 0 (.t 96), none⟩,
  ⟨some 102, .ex 1 (.t 96), none⟩,
  ⟨some 20, .mv (.t 101), none⟩,
  ⟨some 21, .mv (.t 102), none⟩])
 (.seq (.reg [⟨some 103, .mv (.t 21), none⟩,
  ⟨some 104, .un .not (.t 103), none⟩,
  ⟨some 105, .mv (.t 104), none⟩,
  ⟨some 106, .mv (.t 20), some (105, false)⟩,
  ⟨some 107, .mv (.t 9), some (105, false)⟩,
  ⟨some 108, .mv (.t 18), some (105, false)⟩,
  ⟨some 109, .ia none 1 (.t 107) (.t 108), some (105, false)⟩,
  ⟨some 110, .ld none (.t 109), some (105, false)⟩,
  ⟨some 111, .bin .neq [] (.t 106) (.t 110), some (105, false)⟩,
  ⟨some 112, .pick (.t 105) (.c (.bool true)) (.t 111), none⟩])
 (.cond (.t 112)
 (.seq (.reg [⟨some 6, .mv (.c (.bool false)), none⟩])
 (.ret))
 (.skip))))
 (.reg [⟨some 113, .mv (.t 17), none⟩,
  ⟨some 114, .mv (.t 19), none⟩,
  ⟨some 115, .bin .add [] (.t 113) (.t 114), none⟩,
  ⟨some 17, .mv (.t 115), none⟩]))))
 (.reg [⟨some 116, .bin .add [] (.t 91) (.c (.int .i64 1)), none⟩,
  ⟨some 91, .mv (.t 116), none⟩])))))))
 (.seq (.seq (.reg [⟨some 117, .mv (.t 12), none⟩,
  ⟨some 118, .bin .gtr [] (.t 117) (.c (.int .i64 0)), none⟩])
 (.cond (.t 118)
 (.seq (.reg [⟨some 120, .mv (.t 8), none⟩,
  ⟨some 121, .mv (.t 10), none⟩,
  ⟨some 122, .mv (.t 2), none⟩,
  ⟨some 123, .ci .i64 (.t 122), none⟩,
  ⟨some 124, .mv (.t 12), none⟩,
  ⟨some 125, .bin .rem [] (.t 123) (.t 124), none⟩,
  ⟨some 126, .slc none 1 (.t 121) none (some (.t 125)) none, none⟩,
  ⟨some 127, .call 37 [(.t 120), (.t 126)], none⟩,
  ⟨some 119, .mv (.t 127), none⟩,
  ⟨some 128, .ex 0 (.t 119), none⟩,
  ⟨some 129, .ex 1 (.t 119), none⟩,
  ⟨some 130, .ex 2 (.t 119), none⟩,
  ⟨some 22, .mv (.t 128), none⟩,
  ⟨some 23, .mv (.t 129), none⟩,
  ⟨some 24, .mv (.t 130), none⟩])
 (.seq (.reg [⟨some 131, .mv (.t 24), none⟩,
  ⟨some 132, .bin .neq [] (.t 131) (.c (.int .i64 4)), none⟩])
 (.cond (.t 132)
 (.seq (.reg [⟨some 6, .mv (.c (.bool false)), none⟩])
 (.ret))
 (.skip))))
 (.skip)))
 (.seq (.reg [⟨some 133, .mv (.t 1), none⟩,
  ⟨some 134, .mv (.t 1), none⟩,
  ⟨some 135, .len none (.t 134), none⟩,
  ⟨some 136, .mnx false [(.t 135), (.c (.int .i64 300))], none⟩,
  ⟨some 137, .slc none 1 (.t 133) none (some (.t 136)) none, none⟩,
  ⟨some 1, .mv (.t 137), none⟩])
 (.seq (.reg [⟨some 139, .mv (.t 8), none⟩,
  ⟨some 140, .mv (.t 1), none⟩,
  ⟨some 141, .call 37 [(.t 139), (.t 140)], none⟩,
  ⟨some 138, .mv (.t 141), none⟩,
  ⟨some 142, .ex 0 (.t 138), none⟩,
  ⟨some 143, .ex 1 (.t 138), none⟩,
  ⟨some 144, .ex 2 (.t 138), none⟩,
  ⟨some 25, .mv (.t 142), none⟩,
  ⟨some 26, .mv (.t 143), none⟩,
  ⟨some 27, .mv (.t 144), none⟩])
 (.seq (.seq (.reg [⟨some 145, .mv (.t 27), none⟩,
  ⟨some 146, .bin .neq [] (.t 145) (.c (.int .i64 0)), none⟩])
 (.cond (.t 146)
 (.seq (.reg [⟨some 147, .call 43 [], none⟩,
  ⟨some 148, .mv (.t 147), none⟩,
  ⟨some 149, .mv (.t 27), some (148, true)⟩,
  ⟨some 150, .bin .eql [] (.t 149) (.c (.int .i64 4)), some (148, true)⟩,
  ⟨some 151, .pick (.t 148) (.t 150) (.c (.bool false)), none⟩,
  ⟨some 152, .mv (.t 151), none⟩,
  ⟨some 153, .mv (.t 1), some (152, true)⟩,
  ⟨some 154, .len none (.t 153), some (152, true)⟩,
  ⟨some 155, .mv (.t 12), some (152, true)⟩,
  ⟨some 156, .bin .lss [] (.t 154) (.t 155), some (152, true)⟩,
  ⟨some 157, .pick (.t 152) (.t 156) (.c (.bool false)), none⟩,
  ⟨some 6, .mv (.t 157), none⟩])
 (.ret))
 (.skip)))
 (.seq (.reg [⟨some 159, .mv (.t 8), none⟩,
  ⟨some 160, .mv (.t 25), none⟩,
  ⟨some 161, .call 35 [(.t 159), (.t 160)], none⟩,
  ⟨some 158, .mv (.t 161), none⟩,
  ⟨some 162, .ex 0 (.t 158), none⟩,
  ⟨some 163, .ex 1 (.t 158), none⟩,
  ⟨some 28, .mv (.t 162), none⟩,
  ⟨some 29, .mv (.t 163), none⟩])
 (.seq (.reg [⟨some 164, .call 43 [], none⟩,
  ⟨some 165, .mv (.t 164), none⟩,
  ⟨some 166, .mv (.t 29), some (165, true)⟩,
  ⟨some 167, .bin .eql [] (.t 166) (.c (.int .i64 0)), some (165, true)⟩,
  ⟨some 168, .pick (.t 165) (.t 167) (.c (.bool false)), none⟩,
  ⟨some 169, .mv (.t 168), none⟩,
  ⟨some 170, .mv (.t 28), some (169, true)⟩,
  ⟨some 171, .mv (.t 26), some (169, true)⟩,
  ⟨some 172, .app (.ints .u8 [0]) 1 (.t 170) (.t 171), some (169, true)⟩,
  ⟨some 173, .mv (.t 1), some (169, true)⟩,
  ⟨some 174, .call 41 [(.t 172), (.t 173)], some (169, true)⟩,
  ⟨some 175, .pick (.t 169) (.t 174) (.c (.bool false)), none⟩,
  ⟨some 6, .mv (.t 175), none⟩])
 (.ret)))))))))))))))),
 [.tmp 6], true⟩
/-- ephemeris/poll.New -/
def M15 : MFunc := ⟨.seq (.reg [⟨some 6, .mv (.c .nilp), none⟩,
  ⟨some 7, .mv (.c (.int .i64 0)), none⟩])
 (.seq (.seq (.reg [⟨some 8, .mv (.t 0), none⟩,
  ⟨some 9, .bin .lss [] (.t 8) (.c (.int .i64 4)), none⟩,
  ⟨some 10, .mv (.t 9), none⟩,
  ⟨some 11, .mv (.t 0), some (10, false)⟩,
  ⟨some 12, .mv (.t 1), some (10, false)⟩,
  ⟨some 13, .bin .gtr [] (.t 11) (.t 12), some (10, false)⟩,
  ⟨some 14, .pick (.t 10) (.c (.bool true)) (.t 13), none⟩,
  ⟨some 15, .mv (.t 14), none⟩,
  ⟨some 16, .mv (.t 1), some (15, false)⟩,
  ⟨some 17, .bin .gtr [] (.t 16) (.c (.int .i64 10)), some (15, false)⟩,
  ⟨some 18, .pick (.t 15) (.c (.bool true)) (.t 17), none⟩,
  ⟨some 19, .mv (.t 18), none⟩,
  ⟨some 20, .mv (.t 2), some (19, false)⟩,
  ⟨some 21, .bin .lss [] (.t 20) (.c (.int .i64 0)), some (19, false)⟩,
  ⟨some 22, .pick (.t 19) (.c (.bool true)) (.t 21), none⟩,
  ⟨some 23, .mv (.t 22), none⟩,
  ⟨some 24, .mv (.t 2), some (23, false)⟩,
  ⟨some 25, .bin .gtr [] (.t 24) (.c (.int .i64 4611686018427387904)), some (23, false)⟩,
  ⟨some 26, .pick (.t 23) (.c (.bool true)) (.t 25), none⟩])
 (.cond (.t 26)
 (.seq (.reg [⟨some 6, .mv (.c .nilp), none⟩,
  ⟨some 7, .mv (.c (.int .i64 1)), none⟩])
 (.ret))
 (.skip)))
 (.seq (.reg [⟨some 27, .mv (.t 0), none⟩,
  ⟨some 28, .mv (.t 0), none⟩,
  ⟨some 29, .mv (.t 1), none⟩,
  ⟨some 30, .mv (.t 2), none⟩,
  ⟨some 31, .bld [(.int .i64 0), (.int .i64 0), (.int .i64 0), (.int .u8 0), (.int .i64 0), (.int .i64 0), (.int .i64 0), (.int .i64 0), (.bool false), (.bool false)] [(0, 1, (.t 27)), (1, 1, (.t 28)), (2, 1, (.t 29)), (7, 1, (.t 30)), (9, 1, (.c (.bool true)))], none⟩,
  ⟨some 32, .bx none 10 (.t 31), none⟩,
  ⟨some 6, .mv (.t 32), none⟩,
  ⟨some 7, .mv (.c (.int .i64 0)), none⟩])
 (.ret))),
 [.tmp 6, .tmp 7], true⟩
/-- ephemeris/ephemerislaw17.awake -/
def M16 : MFunc := ⟨.seq (.reg [⟨some 0, .mv (.c (.bool false)), none⟩])
 (.seq (.reg [⟨some 10, .call 15 [(.c (.int .i64 4)), (.c (.int .i64 6)), (.c (.int .i64 100))], none⟩,
  ⟨some 9, .mv (.t 10), none⟩,
  ⟨some 11, .ex 0 (.t 9), none⟩,
  ⟨some 12, .ex 1 (.t 9), none⟩,
  ⟨some 1, .mv (.t 11), none⟩,
  ⟨some 2, .mv (.t 12), none⟩])
 (.seq (.seq (.reg [⟨some 13, .mv (.t 2), none⟩,
  ⟨some 14, .bin .neq [] (.t 13) (.c (.int .i64 0)), none⟩,
  ⟨some 15, .mv (.t 14), none⟩,
  ⟨some 16, .mv (.t 1), some (15, false)⟩,
  ⟨some 17, .call 20 [(.t 16), (.c (.int .i64 99))], some (15, false)⟩,
  ⟨some 18, .pick (.t 15) (.c (.bool true)) (.t 17), none⟩,
  ⟨some 19, .mv (.t 18), none⟩,
  ⟨some 20, .mv (.t 1), some (19, false)⟩,
  ⟨some 21, .call 20 [(.t 20), (.c (.int .i64 100))], some (19, false)⟩,
  ⟨some 22, .un .not (.t 21), some (19, false)⟩,
  ⟨some 23, .pick (.t 19) (.c (.bool true)) (.t 22), none⟩,
  ⟨some 24, .mv (.t 23), none⟩,
  ⟨some 25, .mv (.t 1), some (24, false)⟩,
  ⟨some 26, .call 21 [(.t 25), (.c (.int .i64 100))], some (24, false)⟩,
  ⟨some 27, .bin .neq [] (.t 26) (.c (.int .i64 0)), some (24, false)⟩,
  ⟨some 28, .pick (.t 24) (.c (.bool true)) (.t 27), none⟩])
 (.cond (.t 28)
 (.seq (.reg [⟨some 0, .mv (.c (.bool false)), none⟩])
 (.ret))
 (.skip)))
 (.seq (.reg [⟨some 30, .mv (.t 1), none⟩,
  ⟨some 31, .call 19 [(.t 30)], none⟩,
  ⟨some 29, .mv (.t 31), none⟩,
  ⟨some 32, .ex 0 (.t 29), none⟩,
  ⟨some 33, .ex 1 (.t 29), none⟩,
  ⟨some 3, .mv (.t 32), none⟩,
  ⟨some 4, .mv (.t 33), none⟩])
 (.seq (.seq (.reg [⟨some 34, .mv (.c (.int .i64 0)), none⟩])
 (.block 0 [1, 3, 4]
 (.loop [1, 3, 4, 34]
 (.seq (.reg [⟨some 35, .bin .lss [] (.t 34) (.c (.int .i64 8)), none⟩])
 (.seq (.cond (.t 35)
 (.skip)
 (.exit 0))
 (.seq (.block 1 [1, 3, 4, 34]
 (.seq (.reg [⟨some 36, .mv (.t 1), none⟩,
  ⟨some 37, .call 18 [(.t 36), (.c (.bool true))], none⟩,
  ⟨some 38, .bin .neq [] (.t 37) (.c (.int .i64 0)), none⟩])
 (.cond (.t 38)
 (.seq (.reg [⟨some 0, .mv (.c (.bool false)), none⟩])
 (.ret))
 (.skip))))
 (.reg [⟨some 39, .bin .add [] (.t 34) (.c (.int .i64 1)), none⟩,
  ⟨some 34, .mv (.t 39), none⟩])))))))
 (.seq (.reg [⟨some 40, .mv (.t 1), none⟩,
  ⟨some 41, .call 22 [(.t 40)], none⟩,
  ⟨some 5, .mv (.t 41), none⟩])
 (.seq (.reg [⟨some 42, .mv (.t 1), none⟩,
  ⟨some 43, .call 24 [(.t 42), (.c (.int .i64 8))], none⟩,
  ⟨some 6, .mv (.t 43), none⟩])
 (.seq (.reg [⟨some 45, .mv (.t 1), none⟩,
  ⟨some 46, .call 19 [(.t 45)], none⟩,
  ⟨some 44, .mv (.t 46), none⟩,
  ⟨some 47, .ex 0 (.t 44), none⟩,
  ⟨some 48, .ex 1 (.t 44), none⟩,
  ⟨some 7, .mv (.t 47), none⟩,
  ⟨some 8, .mv (.t 48), none⟩])
 (.seq (.reg [⟨some 49, .mv (.t 4), none⟩,
  ⟨some 50, .mv (.t 49), none⟩,
  ⟨some 51, .mv (.t 3), some (50, true)⟩,
  ⟨some 52, .bin .eql [] (.t 51) (.c (.int .i64 16000000100)), some (50, true)⟩,
  ⟨some 53, .pick (.t 50) (.t 52) (.c (.bool false)), none⟩,
  ⟨some 54, .mv (.t 53), none⟩,
  ⟨some 55, .mv (.t 5), some (54, true)⟩,
  ⟨some 56, .bin .eql [] (.t 55) (.c (.int .i64 5)), some (54, true)⟩,
  ⟨some 57, .pick (.t 54) (.t 56) (.c (.bool false)), none⟩,
  ⟨some 58, .mv (.t 57), none⟩,
  ⟨some 59, .mv (.t 6), some (58, true)⟩,
  ⟨some 60, .bin .eql [] (.t 59) (.c (.int .i64 0)), some (58, true)⟩,
  ⟨some 61, .pick (.t 58) (.t 60) (.c (.bool false)), none⟩,
  ⟨some 62, .mv (.t 61), none⟩,
  ⟨some 63, .mv (.t 1), some (62, true)⟩,
  ⟨some 64, .call 22 [(.t 63)], some (62, true)⟩,
  ⟨some 65, .bin .eql [] (.t 64) (.c (.int .i64 8)), some (62, true)⟩,
  ⟨some 66, .pick (.t 62) (.t 65) (.c (.bool false)), none⟩,
  ⟨some 67, .mv (.t 66), none⟩,
  ⟨some 68, .mv (.t 8), some (67, true)⟩,
  ⟨some 69, .pick (.t 67) (.t 68) (.c (.bool false)), none⟩,
  ⟨some 70, .mv (.t 69), none⟩,
  ⟨some 71, .mv (.t 7), some (70, true)⟩,
  ⟨some 72, .bin .eql [] (.t 71) (.c (.int .i64 256000000100)), some (70, true)⟩,
  ⟨some 73, .pick (.t 70) (.t 72) (.c (.bool false)), none⟩,
  ⟨some 0, .mv (.t 73), none⟩])
 (.ret))))))))),
 [.tmp 0], true⟩
/-- ephemeris/ephemerislaw17.PollDemand_1 -/
def M17 : MFunc := ⟨.seq (.reg [⟨some 4, .bx (some .i64) 3 (.t 0), none⟩,
  ⟨some 5, .mv (.c (.bool false)), none⟩])
 (.seq (.seq (.reg [⟨some 8, .fa 0 (.t 4), none⟩,
  ⟨some 9, .ld none (.t 8), none⟩])
 (.block 0 [1]
 (.seq (.seq (.reg [⟨some 11, .bin .eql [] (.t 9) (.c (.int .i64 1)), none⟩,
  ⟨some 10, .mv (.t 11), none⟩])
 (.cond (.t 10)
 (.skip)
 (.reg [⟨some 12, .bin .eql [] (.t 9) (.c (.int .i64 2)), none⟩,
  ⟨some 10, .mv (.t 12), none⟩])))
 (.cond (.t 10)
 (.seq (.reg [⟨some 13, .ld none (.t 1), none⟩,
  ⟨some 14, .fa 0 (.t 4), none⟩,
  ⟨some 15, .ld none (.t 14), none⟩,
  ⟨some 16, .bin .eql [] (.t 15) (.c (.int .i64 1)), none⟩,
  ⟨some 17, .call 18 [(.t 13), (.t 16)], none⟩,
  ⟨some 18, .bin .eql [] (.t 17) (.c (.int .i64 0)), none⟩,
  ⟨some 5, .mv (.t 18), none⟩])
 (.ret))
 (.seq (.seq (.reg [⟨some 20, .bin .eql [] (.t 9) (.c (.int .i64 0)), none⟩,
  ⟨some 19, .mv (.t 20), none⟩])
 (.cond (.t 19)
 (.skip)
 (.reg [⟨some 21, .bin .eql [] (.t 9) (.c (.int .i64 6)), none⟩,
  ⟨some 19, .mv (.t 21), none⟩])))
 (.cond (.t 19)
 (.seq (.reg [⟨some 23, .ld none (.t 1), none⟩,
  ⟨some 24, .call 19 [(.t 23)], none⟩,
  ⟨some 22, .mv (.t 24), none⟩,
  ⟨some 25, .ex 0 (.t 22), none⟩,
  ⟨some 26, .ex 1 (.t 22), none⟩,
  ⟨some 6, .mv (.t 25), none⟩,
  ⟨some 7, .mv (.t 26), none⟩])
 (.seq (.seq (.reg [⟨some 27, .mv (.t 7), none⟩,
  ⟨some 28, .un .not (.t 27), none⟩])
 (.cond (.t 28)
 (.seq (.reg [⟨some 5, .mv (.c (.bool false)), none⟩])
 (.ret))
 (.skip)))
 (.seq (.reg [⟨some 29, .ld none (.t 2), none⟩,
  ⟨some 30, .mv (.t 6), none⟩,
  ⟨some 31, .mnx true [(.t 29), (.t 30)], none⟩,
  ⟨some 32, .fa 2 (.t 4), none⟩,
  ⟨some 33, .ld none (.t 32), none⟩,
  ⟨some 34, .bin .and [] (.t 33) (.c (.int .i64 1099511627775)), none⟩,
  ⟨some 35, .bin .add [] (.t 31) (.t 34), none⟩,
  ⟨none, .st 1 (.t 2) (.t 35), none⟩])
 (.seq (.seq (.reg [⟨some 36, .ld none (.t 1), none⟩,
  ⟨some 37, .ld none (.t 2), none⟩,
  ⟨some 38, .call 20 [(.t 36), (.t 37)], none⟩,
  ⟨some 39, .un .not (.t 38), none⟩,
  ⟨some 40, .mv (.t 39), none⟩,
  ⟨some 41, .ld none (.t 1), some (40, false)⟩,
  ⟨some 42, .ld none (.t 2), some (40, false)⟩,
  ⟨some 43, .call 21 [(.t 41), (.t 42)], some (40, false)⟩,
  ⟨some 44, .bin .neq [] (.t 43) (.c (.int .i64 0)), some (40, false)⟩,
  ⟨some 45, .pick (.t 40) (.c (.bool true)) (.t 44), none⟩])
 (.cond (.t 45)
 (.seq (.reg [⟨some 5, .mv (.c (.bool false)), none⟩])
 (.ret))
 (.skip)))
 (.reg [⟨some 46, .ld none (.t 2), none⟩,
  ⟨none, .st 1 (.t 3) (.t 46), none⟩])))))
 (.skip)))))))
 (.seq (.regd [(0, ⟨some 47, .ld none (.t 1), none⟩),
  (1, ⟨some 48, .call 22 [(.t 47)], none⟩),
  (2, ⟨some 49, .ld none (.t 1), none⟩),
  (3, ⟨some 50, .call 23 [(.t 49)], none⟩),
  (4, ⟨some 51, .bin .geq [] (.t 48) (.t 50), none⟩),
  (5, ⟨some 5, .mv (.t 51), none⟩)] [(2, 1)])
 (.ret))),
 [.tmp 5], true⟩
/-- (*ephemeris/poll.Poll).Got -/
def M18 : MFunc := ⟨.seq (.reg [⟨some 4, .mv (.c (.int .i64 0)), none⟩])
 (.seq (.seq (.reg [⟨some 6, .mv (.t 0), none⟩,
  ⟨some 7, .call 56 [(.t 6), (.c .nils)], none⟩,
  ⟨some 5, .mv (.t 7), none⟩])
 (.seq (.reg [⟨some 8, .mv (.t 5), none⟩,
  ⟨some 9, .bin .neq [] (.t 8) (.c (.int .i64 0)), none⟩])
 (.cond (.t 9)
 (.seq (.reg [⟨some 10, .mv (.t 5), none⟩,
  ⟨some 4, .mv (.t 10), none⟩])
 (.ret))
 (.skip))))
 (.seq (.reg [⟨some 11, .mv (.t 0), none⟩,
  ⟨some 12, .nc (.t 11), none⟩,
  ⟨some 13, .fa 3 (.t 12), none⟩,
  ⟨some 14, .ld none (.t 13), none⟩,
  ⟨some 15, .bin .or [] (.t 14) (.c (.int .u8 1)), none⟩,
  ⟨some 16, .nc (.t 11), none⟩,
  ⟨some 17, .fa 3 (.t 16), none⟩,
  ⟨none, .st 1 (.t 17) (.t 15), none⟩])
 (.seq (.seq (.reg [⟨some 18, .mv (.t 1), none⟩,
  ⟨some 19, .un .not (.t 18), none⟩])
 (.cond (.t 19)
 (.seq (.regd [(0, ⟨some 20, .mv (.t 0), none⟩),
  (1, ⟨some 21, .mv (.t 0), none⟩),
  (2, ⟨some 22, .mv (.t 0), none⟩),
  (3, ⟨some 23, .nc (.t 22), none⟩),
  (4, ⟨some 24, .fa 0 (.t 23), none⟩),
  (5, ⟨some 25, .ld none (.t 24), none⟩),
  (6, ⟨some 26, .bin .sub [] (.t 25) (.c (.int .i64 1)), none⟩),
  (7, ⟨some 27, .mv (.t 0), none⟩),
  (8, ⟨some 28, .nc (.t 27), none⟩),
  (9, ⟨some 29, .fa 1 (.t 28), none⟩),
  (10, ⟨some 30, .ld none (.t 29), none⟩),
  (11, ⟨some 31, .mnx true [(.t 26), (.t 30)], none⟩),
  (12, ⟨some 32, .nc (.t 20), none⟩),
  (13, ⟨some 33, .fa 5 (.t 32), none⟩),
  (14, ⟨none, .st 1 (.t 33) (.c (.int .i64 0)), none⟩),
  (15, ⟨some 34, .nc (.t 21), none⟩),
  (16, ⟨some 35, .fa 0 (.t 34), none⟩),
  (17, ⟨none, .st 1 (.t 35) (.t 31), none⟩)] [])
 (.seq (.reg [⟨some 4, .mv (.c (.int .i64 0)), none⟩])
 (.ret)))
 (.skip)))
 (.seq (.seq (.reg [⟨some 36, .mv (.t 0), none⟩,
  ⟨some 37, .nc (.t 36), none⟩,
  ⟨some 38, .fa 5 (.t 37), none⟩,
  ⟨some 39, .ld none (.t 38), none⟩,
  ⟨some 40, .bin .add [] (.t 39) (.c (.int .i64 1)), none⟩,
  ⟨some 41, .nc (.t 36), none⟩,
  ⟨some 42, .fa 5 (.t 41), none⟩,
  ⟨none, .st 1 (.t 42) (.t 40), none⟩])
 (.seq (.reg [⟨some 43, .mv (.t 0), none⟩,
  ⟨some 44, .nc (.t 43), none⟩,
  ⟨some 45, .fa 5 (.t 44), none⟩,
  ⟨some 46, .ld none (.t 45), none⟩,
  ⟨some 47, .bin .eql [] (.t 46) (.c (.int .i64 8)), none⟩])
 (.cond (.t 47)
 (.regd [(0, ⟨some 48, .mv (.t 0), none⟩),
  (1, ⟨some 49, .mv (.t 0), none⟩),
  (2, ⟨some 50, .mv (.t 0), none⟩),
  (3, ⟨some 51, .nc (.t 50), none⟩),
  (4, ⟨some 52, .fa 0 (.t 51), none⟩),
  (5, ⟨some 53, .ld none (.t 52), none⟩),
  (6, ⟨some 54, .bin .add [] (.t 53) (.c (.int .i64 1)), none⟩),
  (7, ⟨some 55, .mv (.t 0), none⟩),
  (8, ⟨some 56, .nc (.t 55), none⟩),
  (9, ⟨some 57, .fa 2 (.t 56), none⟩),
  (10, ⟨some 58, .ld none (.t 57), none⟩),
  (11, ⟨some 59, .mnx false [(.t 54), (.t 58)], none⟩),
  (12, ⟨some 60, .nc (.t 48), none⟩),
  (13, ⟨some 61, .fa 5 (.t 60), none⟩),
  (14, ⟨none, .st 1 (.t 61) (.c (.int .i64 0)), none⟩),
  (15, ⟨some 62, .nc (.t 49), none⟩),
  (16, ⟨some 63, .fa 0 (.t 62), none⟩),
  (17, ⟨none, .st 1 (.t 63) (.t 59), none⟩)] [])
 (.skip))))
 (.seq (.reg [⟨some 4, .mv (.c (.int .i64 0)), none⟩])
 (.ret)))))),
 [.tmp 4], true⟩
/-- (*ephemeris/poll.Poll).Next -/
def M19 : MFunc := ⟨.seq (.reg [⟨some 2, .mv (.c (.int .i64 0)), none⟩,
  ⟨some 3, .mv (.c (.bool false)), none⟩])
 (.seq (.seq (.reg [⟨some 4, .mv (.t 0), none⟩,
  ⟨some 5, .call 57 [(.t 4)], none⟩,
  ⟨some 6, .mv (.t 5), none⟩,
  ⟨some 7, .mv (.t 0), some (6, false)⟩,
  ⟨some 8, .nc (.t 7), some (6, false)⟩,
  ⟨some 9, .fa 8 (.t 8), some (6, false)⟩,
  ⟨some 10, .ld none (.t 9), some (6, false)⟩,
  ⟨some 11, .pick (.t 6) (.c (.bool true)) (.t 10), none⟩])
 (.cond (.t 11)
 (.seq (.reg [⟨some 2, .mv (.c (.int .i64 0)), none⟩,
  ⟨some 3, .mv (.c (.bool false)), none⟩])
 (.ret))
 (.skip)))
 (.seq (.reg [⟨some 12, .mv (.t 0), none⟩,
  ⟨some 13, .nc (.t 12), none⟩,
  ⟨some 14, .fa 7 (.t 13), none⟩,
  ⟨some 15, .ld none (.t 14), none⟩,
  ⟨some 2, .mv (.t 15), none⟩,
  ⟨some 3, .mv (.c (.bool true)), none⟩])
 (.ret))),
 [.tmp 2, .tmp 3], true⟩
/-- (*ephemeris/poll.Poll).Due -/
def M20 : MFunc := ⟨.seq (.reg [⟨some 4, .mv (.c (.bool false)), none⟩])
 (.seq (.reg [⟨some 5, .mv (.t 0), none⟩,
  ⟨some 6, .call 57 [(.t 5)], none⟩,
  ⟨some 7, .un .not (.t 6), none⟩,
  ⟨some 8, .mv (.t 7), none⟩,
  ⟨some 9, .mv (.t 0), some (8, true)⟩,
  ⟨some 10, .nc (.t 9), some (8, true)⟩,
  ⟨some 11, .fa 8 (.t 10), some (8, true)⟩,
  ⟨some 12, .ld none (.t 11), some (8, true)⟩,
  ⟨some 13, .un .not (.t 12), some (8, true)⟩,
  ⟨some 14, .pick (.t 8) (.t 13) (.c (.bool false)), none⟩,
  ⟨some 15, .mv (.t 14), none⟩,
  ⟨some 16, .mv (.t 1), some (15, true)⟩,
  ⟨some 17, .mv (.t 0), some (15, true)⟩,
  ⟨some 18, .nc (.t 17), some (15, true)⟩,
  ⟨some 19, .fa 7 (.t 18), some (15, true)⟩,
  ⟨some 20, .ld none (.t 19), some (15, true)⟩,
  ⟨some 21, .bin .geq [] (.t 16) (.t 20), some (15, true)⟩,
  ⟨some 22, .pick (.t 15) (.t 21) (.c (.bool false)), none⟩,
  ⟨some 4, .mv (.t 22), none⟩])
 (.ret)),
 [.tmp 4], true⟩
/-- (*ephemeris/poll.Poll).Sent -/
def M21 : MFunc := ⟨.seq (.reg [⟨some 3, .bx (some .i64) 1 (.t 1), none⟩,
  ⟨some 4, .mv (.c (.int .i64 0)), none⟩])
 (.seq (.seq (.reg [⟨some 6, .mv (.t 0), none⟩,
  ⟨some 7, .mf 58 [(.t 3)], none⟩,
  ⟨some 8, .bsl (.vals [.nilf]) 1 1 [(0, 1, (.t 7))], none⟩,
  ⟨some 9, .call 56 [(.t 6), (.t 8)], none⟩,
  ⟨some 5, .mv (.t 9), none⟩])
 (.seq (.reg [⟨some 10, .mv (.t 5), none⟩,
  ⟨some 11, .bin .neq [] (.t 10) (.c (.int .i64 0)), none⟩])
 (.cond (.t 11)
 (.seq (.reg [⟨some 12, .mv (.t 5), none⟩,
  ⟨some 4, .mv (.t 12), none⟩])
 (.ret))
 (.skip))))
 (.seq (.seq (.reg [⟨some 13, .mv (.t 0), none⟩,
  ⟨some 14, .nc (.t 13), none⟩,
  ⟨some 15, .fa 4 (.t 14), none⟩,
  ⟨some 16, .ld none (.t 15), none⟩,
  ⟨some 17, .bin .geq [] (.t 16) (.c (.int .i64 3)), none⟩,
  ⟨some 18, .mv (.t 17), none⟩,
  ⟨some 19, .mv (.t 0), some (18, true)⟩,
  ⟨some 20, .nc (.t 19), some (18, true)⟩,
  ⟨some 21, .fa 3 (.t 20), some (18, true)⟩,
  ⟨some 22, .ld none (.t 21), some (18, true)⟩,
  ⟨some 23, .bin .and [] (.t 22) (.c (.int .u8 7)), some (18, true)⟩,
  ⟨some 24, .bin .eql [] (.t 23) (.c (.int .u8 0)), some (18, true)⟩,
  ⟨some 25, .pick (.t 18) (.t 24) (.c (.bool false)), none⟩])
 (.cond (.t 25)
 (.reg [⟨some 26, .mv (.t 0), none⟩,
  ⟨some 27, .mv (.t 0), none⟩,
  ⟨some 28, .mv (.t 0), none⟩,
  ⟨some 29, .nc (.t 28), none⟩,
  ⟨some 30, .fa 1 (.t 29), none⟩,
  ⟨some 31, .ld none (.t 30), none⟩,
  ⟨some 32, .nc (.t 26), none⟩,
  ⟨some 33, .fa 0 (.t 32), none⟩,
  ⟨none, .st 1 (.t 33) (.t 31), none⟩,
  ⟨some 34, .nc (.t 27), none⟩,
  ⟨some 35, .fa 5 (.t 34), none⟩,
  ⟨none, .st 1 (.t 35) (.c (.int .i64 0)), none⟩])
 (.skip)))
 (.seq (.reg [⟨some 36, .mv (.t 0), none⟩,
  ⟨some 37, .nc (.t 36), none⟩,
  ⟨some 38, .fa 3 (.t 37), none⟩,
  ⟨some 39, .ld none (.t 38), none⟩,
  ⟨some 40, .bin .shl [] (.t 39) (.c (.int .u64 1)), none⟩,
  ⟨some 41, .nc (.t 36), none⟩,
  ⟨some 42, .fa 3 (.t 41), none⟩,
  ⟨none, .st 1 (.t 42) (.t 40), none⟩])
 (.seq (.reg [⟨some 43, .mv (.t 0), none⟩,
  ⟨some 44, .nc (.t 43), none⟩,
  ⟨some 45, .fa 4 (.t 44), none⟩,
  ⟨some 46, .ld none (.t 45), none⟩,
  ⟨some 47, .bin .add [] (.t 46) (.c (.int .i64 1)), none⟩,
  ⟨some 48, .nc (.t 43), none⟩,
  ⟨some 49, .fa 4 (.t 48), none⟩,
  ⟨none, .st 1 (.t 49) (.t 47), none⟩])
 (.seq (.regd [(0, ⟨some 50, .mv (.t 0), none⟩),
  (1, ⟨some 51, .mv (.t 0), none⟩),
  (2, ⟨some 52, .ld none (.t 3), none⟩),
  (3, ⟨some 53, .ld none (.t 3), none⟩),
  (4, ⟨some 54, .mv (.t 0), none⟩),
  (5, ⟨some 55, .call 59 [(.t 54)], none⟩),
  (6, ⟨some 56, .bin .add [] (.t 53) (.t 55), none⟩),
  (7, ⟨some 57, .nc (.t 50), none⟩),
  (8, ⟨some 58, .fa 6 (.t 57), none⟩),
  (9, ⟨none, .st 1 (.t 58) (.t 52), none⟩),
  (10, ⟨some 59, .nc (.t 51), none⟩),
  (11, ⟨some 60, .fa 7 (.t 59), none⟩),
  (12, ⟨none, .st 1 (.t 60) (.t 56), none⟩)] [(2, 5), (3, 5), (3, 9)])
 (.seq (.reg [⟨some 4, .mv (.c (.int .i64 0)), none⟩])
 (.ret))))))),
 [.tmp 4], true⟩
/-- (*ephemeris/poll.Poll).Exponent -/
def M22 : MFunc := ⟨.seq (.reg [⟨some 2, .mv (.c (.int .i64 0)), none⟩])
 (.seq (.seq (.reg [⟨some 3, .mv (.t 0), none⟩,
  ⟨some 4, .call 57 [(.t 3)], none⟩])
 (.cond (.t 4)
 (.seq (.reg [⟨some 2, .mv (.c (.int .i64 0)), none⟩])
 (.ret))
 (.skip)))
 (.seq (.reg [⟨some 5, .mv (.t 0), none⟩,
  ⟨some 6, .nc (.t 5), none⟩,
  ⟨some 7, .fa 0 (.t 6), none⟩,
  ⟨some 8, .ld none (.t 7), none⟩,
  ⟨some 2, .mv (.t 8), none⟩])
 (.ret))),
 [.tmp 2], true⟩
/-- (*ephemeris/poll.Poll).Floor -/
def M23 : MFunc := ⟨.seq (.reg [⟨some 2, .mv (.c (.int .i64 0)), none⟩])
 (.seq (.seq (.reg [⟨some 3, .mv (.t 0), none⟩,
  ⟨some 4, .call 57 [(.t 3)], none⟩])
 (.cond (.t 4)
 (.seq (.reg [⟨some 2, .mv (.c (.int .i64 0)), none⟩])
 (.ret))
 (.skip)))
 (.seq (.reg [⟨some 5, .mv (.t 0), none⟩,
  ⟨some 6, .nc (.t 5), none⟩,
  ⟨some 7, .fa 1 (.t 6), none⟩,
  ⟨some 8, .ld none (.t 7), none⟩,
  ⟨some 2, .mv (.t 8), none⟩])
 (.ret))),
 [.tmp 2], true⟩
/-- (*ephemeris/poll.Poll).Rate -/
def M24 : MFunc := ⟨.seq (.reg [⟨some 3, .bx (some .i64) 1 (.t 1), none⟩,
  ⟨some 4, .mv (.c (.int .i64 0)), none⟩])
 (.seq (.seq (.reg [⟨some 6, .mv (.t 0), none⟩,
  ⟨some 7, .mf 60 [(.t 3)], none⟩,
  ⟨some 8, .bsl (.vals [.nilf]) 1 1 [(0, 1, (.t 7))], none⟩,
  ⟨some 9, .call 56 [(.t 6), (.t 8)], none⟩,
  ⟨some 5, .mv (.t 9), none⟩])
 (.seq (.reg [⟨some 10, .mv (.t 5), none⟩,
  ⟨some 11, .bin .neq [] (.t 10) (.c (.int .i64 0)), none⟩])
 (.cond (.t 11)
 (.seq (.reg [⟨some 12, .mv (.t 5), none⟩,
  ⟨some 4, .mv (.t 12), none⟩])
 (.ret))
 (.skip))))
 (.seq (.regd [(0, ⟨some 13, .mv (.t 0), none⟩),
  (1, ⟨some 14, .mv (.t 0), none⟩),
  (2, ⟨some 15, .mv (.t 0), none⟩),
  (3, ⟨some 16, .mv (.t 0), none⟩),
  (4, ⟨some 17, .nc (.t 16), none⟩),
  (5, ⟨some 18, .fa 1 (.t 17), none⟩),
  (6, ⟨some 19, .ld none (.t 18), none⟩),
  (7, ⟨some 20, .ld none (.t 3), none⟩),
  (8, ⟨some 21, .mnx true [(.t 19), (.t 20)], none⟩),
  (9, ⟨some 22, .mv (.t 0), none⟩),
  (10, ⟨some 23, .nc (.t 22), none⟩),
  (11, ⟨some 24, .fa 0 (.t 23), none⟩),
  (12, ⟨some 25, .ld none (.t 24), none⟩),
  (13, ⟨some 26, .ld none (.t 3), none⟩),
  (14, ⟨some 27, .mnx true [(.t 25), (.t 26)], none⟩),
  (15, ⟨some 28, .mv (.t 0), none⟩),
  (16, ⟨some 29, .nc (.t 28), none⟩),
  (17, ⟨some 30, .fa 2 (.t 29), none⟩),
  (18, ⟨some 31, .ld none (.t 30), none⟩),
  (19, ⟨some 32, .ld none (.t 3), none⟩),
  (20, ⟨some 33, .mnx true [(.t 31), (.t 32)], none⟩),
  (21, ⟨some 34, .nc (.t 13), none⟩),
  (22, ⟨some 35, .fa 1 (.t 34), none⟩),
  (23, ⟨none, .st 1 (.t 35) (.t 21), none⟩),
  (24, ⟨some 36, .nc (.t 14), none⟩),
  (25, ⟨some 37, .fa 0 (.t 36), none⟩),
  (26, ⟨none, .st 1 (.t 37) (.t 27), none⟩),
  (27, ⟨some 38, .nc (.t 15), none⟩),
  (28, ⟨some 39, .fa 2 (.t 38), none⟩),
  (29, ⟨none, .st 1 (.t 39) (.t 33), none⟩)] [(13, 23), (19, 23), (19, 26)])
 (.seq (.reg [⟨some 40, .mv (.t 0), none⟩,
  ⟨some 41, .nc (.t 40), none⟩,
  ⟨some 42, .fa 5 (.t 41), none⟩,
  ⟨none, .st 1 (.t 42) (.c (.int .i64 0)), none⟩])
 (.seq (.seq (.reg [⟨some 43, .mv (.t 0), none⟩,
  ⟨some 44, .nc (.t 43), none⟩,
  ⟨some 45, .fa 4 (.t 44), none⟩,
  ⟨some 46, .ld none (.t 45), none⟩,
  ⟨some 47, .bin .gtr [] (.t 46) (.c (.int .i64 0)), none⟩])
 (.cond (.t 47)
 (.regd [(0, ⟨some 48, .mv (.t 0), none⟩),
  (1, ⟨some 49, .mv (.t 0), none⟩),
  (2, ⟨some 50, .nc (.t 49), none⟩),
  (3, ⟨some 51, .fa 7 (.t 50), none⟩),
  (4, ⟨some 52, .ld none (.t 51), none⟩),
  (5, ⟨some 53, .mv (.t 0), none⟩),
  (6, ⟨some 54, .nc (.t 53), none⟩),
  (7, ⟨some 55, .fa 6 (.t 54), none⟩),
  (8, ⟨some 56, .ld none (.t 55), none⟩),
  (9, ⟨some 57, .mv (.t 0), none⟩),
  (10, ⟨some 58, .call 59 [(.t 57)], none⟩),
  (11, ⟨some 59, .bin .add [] (.t 56) (.t 58), none⟩),
  (12, ⟨some 60, .mnx true [(.t 52), (.t 59)], none⟩),
  (13, ⟨some 61, .nc (.t 48), none⟩),
  (14, ⟨some 62, .fa 7 (.t 61), none⟩),
  (15, ⟨none, .st 1 (.t 62) (.t 60), none⟩)] [(4, 10), (8, 10)])
 (.skip)))
 (.seq (.reg [⟨some 4, .mv (.c (.int .i64 0)), none⟩])
 (.ret)))))),
 [.tmp 4], true⟩
/-- (*ephemeris/poll.Poll).Reach -/
def M25 : MFunc := ⟨.seq (.reg [⟨some 2, .mv (.c (.int .u8 0)), none⟩])
 (.seq (.seq (.reg [⟨some 3, .mv (.t 0), none⟩,
  ⟨some 4, .call 57 [(.t 3)], none⟩])
 (.cond (.t 4)
 (.seq (.reg [⟨some 2, .mv (.c (.int .u8 0)), none⟩])
 (.ret))
 (.skip)))
 (.seq (.reg [⟨some 5, .mv (.t 0), none⟩,
  ⟨some 6, .nc (.t 5), none⟩,
  ⟨some 7, .fa 3 (.t 6), none⟩,
  ⟨some 8, .ld none (.t 7), none⟩,
  ⟨some 2, .mv (.t 8), none⟩])
 (.ret))),
 [.tmp 2], true⟩
/-- ephemeris/ephemerisref17.New -/
def M26 : MFunc := ⟨.seq (.reg [⟨some 6, .mv (.c .nilp), none⟩,
  ⟨some 7, .mv (.c (.int .i64 0)), none⟩])
 (.seq (.seq (.reg [⟨some 8, .mv (.t 0), none⟩,
  ⟨some 9, .bin .lss [] (.t 8) (.c (.int .i64 4)), none⟩,
  ⟨some 10, .mv (.t 9), none⟩,
  ⟨some 11, .mv (.t 1), some (10, false)⟩,
  ⟨some 12, .mv (.t 0), some (10, false)⟩,
  ⟨some 13, .bin .lss [] (.t 11) (.t 12), some (10, false)⟩,
  ⟨some 14, .pick (.t 10) (.c (.bool true)) (.t 13), none⟩,
  ⟨some 15, .mv (.t 14), none⟩,
  ⟨some 16, .mv (.t 1), some (15, false)⟩,
  ⟨some 17, .bin .gtr [] (.t 16) (.c (.int .i64 10)), some (15, false)⟩,
  ⟨some 18, .pick (.t 15) (.c (.bool true)) (.t 17), none⟩,
  ⟨some 19, .mv (.t 18), none⟩,
  ⟨some 20, .mv (.t 2), some (19, false)⟩,
  ⟨some 21, .bin .lss [] (.t 20) (.c (.int .i64 0)), some (19, false)⟩,
  ⟨some 22, .pick (.t 19) (.c (.bool true)) (.t 21), none⟩,
  ⟨some 23, .mv (.t 22), none⟩,
  ⟨some 24, .mv (.t 2), some (23, false)⟩,
  ⟨some 25, .bin .gtr [] (.t 24) (.c (.int .i64 4611686018427387904)), some (23, false)⟩,
  ⟨some 26, .pick (.t 23) (.c (.bool true)) (.t 25), none⟩])
 (.cond (.t 26)
 (.seq (.reg [⟨some 6, .mv (.c .nilp), none⟩,
  ⟨some 7, .mv (.c (.int .i64 1)), none⟩])
 (.ret))
 (.skip)))
 (.seq (.reg [⟨some 27, .mv (.t 0), none⟩,
  ⟨some 28, .mv (.t 1), none⟩,
  ⟨some 29, .mv (.t 0), none⟩,
  ⟨some 30, .mv (.t 2), none⟩,
  ⟨some 31, .bld [(.int .i64 0), (.int .i64 0), (.int .i64 0), .nils, (.int .i64 0), (.int .i64 0), (.int .i64 0), (.bool false), (.bool false)] [(0, 1, (.t 27)), (1, 1, (.t 28)), (2, 1, (.t 29)), (6, 1, (.t 30))], none⟩,
  ⟨some 32, .bx none 9 (.t 31), none⟩,
  ⟨some 6, .mv (.t 32), none⟩,
  ⟨some 7, .mv (.c (.int .i64 0)), none⟩])
 (.ret))),
 [.tmp 6, .tmp 7], true⟩
/-- (*ephemeris/ephemerisref17.Poll).Sent -/
def M27 : MFunc := ⟨.seq (.reg [⟨some 4, .mv (.c (.int .i64 0)), none⟩])
 (.seq (.seq (.reg [⟨some 6, .mv (.t 1), none⟩,
  ⟨some 7, .bin .lss [] (.t 6) (.c (.int .i64 0)), none⟩,
  ⟨some 8, .mv (.t 7), none⟩,
  ⟨some 9, .mv (.t 1), some (8, false)⟩,
  ⟨some 10, .bin .gtr [] (.t 9) (.c (.int .i64 4611686018427387904)), some (8, false)⟩,
  ⟨some 11, .pick (.t 8) (.c (.bool true)) (.t 10), none⟩])
 (.cond (.t 11)
 (.seq (.reg [⟨some 4, .mv (.c (.int .i64 1)), none⟩])
 (.ret))
 (.skip)))
 (.seq (.seq (.reg [⟨some 12, .mv (.t 0), none⟩,
  ⟨some 13, .nc (.t 12), none⟩,
  ⟨some 14, .fa 7 (.t 13), none⟩,
  ⟨some 15, .ld none (.t 14), none⟩])
 (.cond (.t 15)
 (.seq (.reg [⟨some 4, .mv (.c (.int .i64 35)), none⟩])
 (.ret))
 (.skip)))
 (.seq (.reg [⟨some 16, .mv (.t 0), none⟩,
  ⟨some 17, .nc (.t 16), none⟩,
  ⟨some 18, .fa 3 (.t 17), none⟩,
  ⟨some 19, .ld none (.t 18), none⟩,
  ⟨some 20, .len none (.t 19), none⟩,
  ⟨some 5, .mv (.t 20), none⟩])
 (.seq (.seq (.reg [⟨some 21, .mv (.t 5), none⟩,
  ⟨some 22, .bin .geq [] (.t 21) (.c (.int .i64 3)), none⟩,
  ⟨some 23, .mv (.t 22), none⟩,
  ⟨some 24, .mv (.t 0), some (23, true)⟩,
  ⟨some 25, .nc (.t 24), some (23, true)⟩,
  ⟨some 26, .fa 3 (.t 25), some (23, true)⟩,
  ⟨some 27, .ld none (.t 26), some (23, true)⟩,
  ⟨some 28, .mv (.t 5), some (23, true)⟩,
  ⟨some 29, .bin .sub [] (.t 28) (.c (.int .i64 1)), some (23, true)⟩,
  ⟨some 30, .ia none 1 (.t 27) (.t 29), some (23, true)⟩,
  ⟨some 31, .ld none (.t 30), some (23, true)⟩,
  ⟨some 32, .un .not (.t 31), some (23, true)⟩,
  ⟨some 33, .pick (.t 23) (.t 32) (.c (.bool false)), none⟩,
  ⟨some 34, .mv (.t 33), none⟩,
  ⟨some 35, .mv (.t 0), some (34, true)⟩,
  ⟨some 36, .nc (.t 35), some (34, true)⟩,
  ⟨some 37, .fa 3 (.t 36), some (34, true)⟩,
  ⟨some 38, .ld none (.t 37), some (34, true)⟩,
  ⟨some 39, .mv (.t 5), some (34, true)⟩,
  ⟨some 40, .bin .sub [] (.t 39) (.c (.int .i64 2)), some (34, true)⟩,
  ⟨some 41, .ia none 1 (.t 38) (.t 40), some (34, true)⟩,
  ⟨some 42, .ld none (.t 41), some (34, true)⟩,
  ⟨some 43, .un .not (.t 42), some (34, true)⟩,
  ⟨some 44, .pick (.t 34) (.t 43) (.c (.bool false)), none⟩,
  ⟨some 45, .mv (.t 44), none⟩,
  ⟨some 46, .mv (.t 0), some (45, true)⟩,
  ⟨some 47, .nc (.t 46), some (45, true)⟩,
  ⟨some 48, .fa 3 (.t 47), some (45, true)⟩,
  ⟨some 49, .ld none (.t 48), some (45, true)⟩,
  ⟨some 50, .mv (.t 5), some (45, true)⟩,
  ⟨some 51, .bin .sub [] (.t 50) (.c (.int .i64 3)), some (45, true)⟩,
  ⟨some 52, .ia none 1 (.t 49) (.t 51), some (45, true)⟩,
  ⟨some 53, .ld none (.t 52), some (45, true)⟩,
  ⟨some 54, .un .not (.t 53), some (45, true)⟩,
  ⟨some 55, .pick (.t 45) (.t 54) (.c (.bool false)), none⟩])
 (.cond (.t 55)
 (.seq (.reg [⟨some 56, .mv (.t 0), none⟩,
  ⟨some 57, .mv (.t 0), none⟩,
  ⟨some 58, .nc (.t 57), none⟩,
  ⟨some 59, .fa 0 (.t 58), none⟩,
  ⟨some 60, .ld none (.t 59), none⟩,
  ⟨some 61, .nc (.t 56), none⟩,
  ⟨some 62, .fa 2 (.t 61), none⟩,
  ⟨none, .st 1 (.t 62) (.t 60), none⟩])
 (.reg [⟨some 63, .mv (.t 0), none⟩,
  ⟨some 64, .nc (.t 63), none⟩,
  ⟨some 65, .fa 4 (.t 64), none⟩,
  ⟨none, .st 1 (.t 65) (.c (.int .i64 0)), none⟩]))
 (.skip)))
 (.seq (.reg [⟨some 66, .mv (.t 0), none⟩,
  ⟨some 67, .mv (.t 0), none⟩,
  ⟨some 68, .nc (.t 67), none⟩,
  ⟨some 69, .fa 3 (.t 68), none⟩,
  ⟨some 70, .ld none (.t 69), none⟩,
  ⟨some 71, .bsl (.vals [(.bool false)]) 1 1 [(0, 1, (.c (.bool false)))], none⟩,
  ⟨some 72, .app (.vals [(.bool false)]) 1 (.t 70) (.t 71), none⟩,
  ⟨some 73, .nc (.t 66), none⟩,
  ⟨some 74, .fa 3 (.t 73), none⟩,
  ⟨none, .st 1 (.t 74) (.t 72), none⟩])
 (.seq (.reg [⟨some 75, .mv (.t 0), none⟩,
  ⟨some 76, .mv (.t 1), none⟩,
  ⟨some 77, .nc (.t 75), none⟩,
  ⟨some 78, .fa 5 (.t 77), none⟩,
  ⟨none, .st 1 (.t 78) (.t 76), none⟩])
 (.seq (.reg [⟨some 79, .mv (.t 0), none⟩,
  ⟨some 80, .mv (.t 1), none⟩,
  ⟨some 81, .mv (.t 0), none⟩,
  ⟨some 82, .nc (.t 81), none⟩,
  ⟨some 83, .fa 2 (.t 82), none⟩,
  ⟨some 84, .ld none (.t 83), none⟩,
  ⟨some 85, .call 61 [(.t 84)], none⟩,
  ⟨some 86, .bin .add [] (.t 80) (.t 85), none⟩,
  ⟨some 87, .nc (.t 79), none⟩,
  ⟨some 88, .fa 6 (.t 87), none⟩,
  ⟨none, .st 1 (.t 88) (.t 86), none⟩])
 (.seq (.reg [⟨some 4, .mv (.c (.int .i64 0)), none⟩])
 (.ret))))))))),
 [.tmp 4], true⟩
/-- (*ephemeris/ephemerisref17.Poll).Got -/
def M28 : MFunc := ⟨.seq (.reg [⟨some 4, .mv (.c (.int .i64 0)), none⟩])
 (.seq (.seq (.reg [⟨some 5, .mv (.t 0), none⟩,
  ⟨some 6, .nc (.t 5), none⟩,
  ⟨some 7, .fa 7 (.t 6), none⟩,
  ⟨some 8, .ld none (.t 7), none⟩])
 (.cond (.t 8)
 (.seq (.reg [⟨some 4, .mv (.c (.int .i64 35)), none⟩])
 (.ret))
 (.skip)))
 (.seq (.seq (.reg [⟨some 9, .mv (.t 0), none⟩,
  ⟨some 10, .nc (.t 9), none⟩,
  ⟨some 11, .fa 3 (.t 10), none⟩,
  ⟨some 12, .ld none (.t 11), none⟩,
  ⟨some 13, .len none (.t 12), none⟩,
  ⟨some 14, .bin .eql [] (.t 13) (.c (.int .i64 0)), none⟩])
 (.cond (.t 14)
 (.reg [⟨some 15, .mv (.t 0), none⟩,
  ⟨some 16, .nc (.t 15), none⟩,
  ⟨some 17, .fa 8 (.t 16), none⟩,
  ⟨none, .st 1 (.t 17) (.c (.bool true)), none⟩])
 (.regd [(0, ⟨some 18, .mv (.t 0), none⟩),
  (1, ⟨some 19, .nc (.t 18), none⟩),
  (2, ⟨some 20, .fa 3 (.t 19), none⟩),
  (3, ⟨some 21, .ld none (.t 20), none⟩),
  (4, ⟨some 22, .mv (.t 0), none⟩),
  (5, ⟨some 23, .nc (.t 22), none⟩),
  (6, ⟨some 24, .fa 3 (.t 23), none⟩),
  (7, ⟨some 25, .ld none (.t 24), none⟩),
  (8, ⟨some 26, .len none (.t 25), none⟩),
  (9, ⟨some 27, .bin .sub [] (.t 26) (.c (.int .i64 1)), none⟩),
  (10, ⟨some 28, .ia none 1 (.t 21) (.t 27), none⟩),
  (11, ⟨none, .st 1 (.t 28) (.c (.bool true)), none⟩)] [])))
 (.seq (.seq (.reg [⟨some 29, .mv (.t 1), none⟩,
  ⟨some 30, .un .not (.t 29), none⟩])
 (.cond (.t 30)
 (.seq (.reg [⟨some 31, .mv (.t 0), none⟩,
  ⟨some 32, .nc (.t 31), none⟩,
  ⟨some 33, .fa 4 (.t 32), none⟩,
  ⟨none, .st 1 (.t 33) (.c (.int .i64 0)), none⟩])
 (.seq (.seq (.regd [(0, ⟨some 34, .mv (.t 0), none⟩),
  (1, ⟨some 35, .nc (.t 34), none⟩),
  (2, ⟨some 36, .fa 2 (.t 35), none⟩),
  (3, ⟨some 37, .ld none (.t 36), none⟩),
  (4, ⟨some 38, .mv (.t 0), none⟩),
  (5, ⟨some 39, .nc (.t 38), none⟩),
  (6, ⟨some 40, .fa 0 (.t 39), none⟩),
  (7, ⟨some 41, .ld none (.t 40), none⟩),
  (8, ⟨some 42, .bin .gtr [] (.t 37) (.t 41), none⟩)] [])
 (.cond (.t 42)
 (.reg [⟨some 43, .mv (.t 0), none⟩,
  ⟨some 44, .nc (.t 43), none⟩,
  ⟨some 45, .fa 2 (.t 44), none⟩,
  ⟨some 46, .ld none (.t 45), none⟩,
  ⟨some 47, .bin .sub [] (.t 46) (.c (.int .i64 1)), none⟩,
  ⟨some 48, .nc (.t 43), none⟩,
  ⟨some 49, .fa 2 (.t 48), none⟩,
  ⟨none, .st 1 (.t 49) (.t 47), none⟩])
 (.skip)))
 (.seq (.reg [⟨some 4, .mv (.c (.int .i64 0)), none⟩])
 (.ret))))
 (.skip)))
 (.seq (.reg [⟨some 50, .mv (.t 0), none⟩,
  ⟨some 51, .nc (.t 50), none⟩,
  ⟨some 52, .fa 4 (.t 51), none⟩,
  ⟨some 53, .ld none (.t 52), none⟩,
  ⟨some 54, .bin .add [] (.t 53) (.c (.int .i64 1)), none⟩,
  ⟨some 55, .nc (.t 50), none⟩,
  ⟨some 56, .fa 4 (.t 55), none⟩,
  ⟨none, .st 1 (.t 56) (.t 54), none⟩])
 (.seq (.seq (.reg [⟨some 57, .mv (.t 0), none⟩,
  ⟨some 58, .nc (.t 57), none⟩,
  ⟨some 59, .fa 4 (.t 58), none⟩,
  ⟨some 60, .ld none (.t 59), none⟩,
  ⟨some 61, .bin .eql [] (.t 60) (.c (.int .i64 8)), none⟩])
 (.cond (.t 61)
 (.seq (.reg [⟨some 62, .mv (.t 0), none⟩,
  ⟨some 63, .nc (.t 62), none⟩,
  ⟨some 64, .fa 4 (.t 63), none⟩,
  ⟨none, .st 1 (.t 64) (.c (.int .i64 0)), none⟩])
 (.seq (.regd [(0, ⟨some 65, .mv (.t 0), none⟩),
  (1, ⟨some 66, .nc (.t 65), none⟩),
  (2, ⟨some 67, .fa 2 (.t 66), none⟩),
  (3, ⟨some 68, .ld none (.t 67), none⟩),
  (4, ⟨some 69, .mv (.t 0), none⟩),
  (5, ⟨some 70, .nc (.t 69), none⟩),
  (6, ⟨some 71, .fa 1 (.t 70), none⟩),
  (7, ⟨some 72, .ld none (.t 71), none⟩),
  (8, ⟨some 73, .bin .lss [] (.t 68) (.t 72), none⟩)] [])
 (.cond (.t 73)
 (.reg [⟨some 74, .mv (.t 0), none⟩,
  ⟨some 75, .nc (.t 74), none⟩,
  ⟨some 76, .fa 2 (.t 75), none⟩,
  ⟨some 77, .ld none (.t 76), none⟩,
  ⟨some 78, .bin .add [] (.t 77) (.c (.int .i64 1)), none⟩,
  ⟨some 79, .nc (.t 74), none⟩,
  ⟨some 80, .fa 2 (.t 79), none⟩,
  ⟨none, .st 1 (.t 80) (.t 78), none⟩])
 (.skip))))
 (.skip)))
 (.seq (.reg [⟨some 4, .mv (.c (.int .i64 0)), none⟩])
 (.ret))))))),
 [.tmp 4], true⟩
/-- (*ephemeris/ephemerisref17.Poll).Rate -/
def M29 : MFunc := ⟨.seq (.reg [⟨some 4, .mv (.c (.int .i64 0)), none⟩])
 (.seq (.seq (.reg [⟨some 5, .mv (.t 1), none⟩,
  ⟨some 6, .bin .lss [] (.t 5) (.c (.int .i64 4)), none⟩,
  ⟨some 7, .mv (.t 6), none⟩,
  ⟨some 8, .mv (.t 1), some (7, false)⟩,
  ⟨some 9, .bin .gtr [] (.t 8) (.c (.int .i64 10)), some (7, false)⟩,
  ⟨some 10, .pick (.t 7) (.c (.bool true)) (.t 9), none⟩])
 (.cond (.t 10)
 (.seq (.reg [⟨some 4, .mv (.c (.int .i64 1)), none⟩])
 (.ret))
 (.skip)))
 (.seq (.seq (.reg [⟨some 11, .mv (.t 0), none⟩,
  ⟨some 12, .nc (.t 11), none⟩,
  ⟨some 13, .fa 7 (.t 12), none⟩,
  ⟨some 14, .ld none (.t 13), none⟩])
 (.cond (.t 14)
 (.seq (.reg [⟨some 4, .mv (.c (.int .i64 35)), none⟩])
 (.ret))
 (.skip)))
 (.seq (.seq (.reg [⟨some 15, .mv (.t 0), none⟩,
  ⟨some 16, .nc (.t 15), none⟩,
  ⟨some 17, .fa 0 (.t 16), none⟩,
  ⟨some 18, .ld none (.t 17), none⟩,
  ⟨some 19, .mv (.t 1), none⟩,
  ⟨some 20, .bin .lss [] (.t 18) (.t 19), none⟩])
 (.cond (.t 20)
 (.reg [⟨some 21, .mv (.t 0), none⟩,
  ⟨some 22, .mv (.t 1), none⟩,
  ⟨some 23, .nc (.t 21), none⟩,
  ⟨some 24, .fa 0 (.t 23), none⟩,
  ⟨none, .st 1 (.t 24) (.t 22), none⟩])
 (.skip)))
 (.seq (.seq (.reg [⟨some 25, .mv (.t 0), none⟩,
  ⟨some 26, .nc (.t 25), none⟩,
  ⟨some 27, .fa 2 (.t 26), none⟩,
  ⟨some 28, .ld none (.t 27), none⟩,
  ⟨some 29, .mv (.t 1), none⟩,
  ⟨some 30, .bin .lss [] (.t 28) (.t 29), none⟩])
 (.cond (.t 30)
 (.reg [⟨some 31, .mv (.t 0), none⟩,
  ⟨some 32, .mv (.t 1), none⟩,
  ⟨some 33, .nc (.t 31), none⟩,
  ⟨some 34, .fa 2 (.t 33), none⟩,
  ⟨none, .st 1 (.t 34) (.t 32), none⟩])
 (.skip)))
 (.seq (.seq (.reg [⟨some 35, .mv (.t 0), none⟩,
  ⟨some 36, .nc (.t 35), none⟩,
  ⟨some 37, .fa 1 (.t 36), none⟩,
  ⟨some 38, .ld none (.t 37), none⟩,
  ⟨some 39, .mv (.t 1), none⟩,
  ⟨some 40, .bin .lss [] (.t 38) (.t 39), none⟩])
 (.cond (.t 40)
 (.reg [⟨some 41, .mv (.t 0), none⟩,
  ⟨some 42, .mv (.t 1), none⟩,
  ⟨some 43, .nc (.t 41), none⟩,
  ⟨some 44, .fa 1 (.t 43), none⟩,
  ⟨none, .st 1 (.t 44) (.t 42), none⟩])
 (.skip)))
 (.seq (.reg [⟨some 45, .mv (.t 0), none⟩,
  ⟨some 46, .nc (.t 45), none⟩,
  ⟨some 47, .fa 4 (.t 46), none⟩,
  ⟨none, .st 1 (.t 47) (.c (.int .i64 0)), none⟩])
 (.seq (.seq (.regd [(0, ⟨some 48, .mv (.t 0), none⟩),
  (1, ⟨some 49, .nc (.t 48), none⟩),
  (2, ⟨some 50, .fa 3 (.t 49), none⟩),
  (3, ⟨some 51, .ld none (.t 50), none⟩),
  (4, ⟨some 52, .len none (.t 51), none⟩),
  (5, ⟨some 53, .bin .gtr [] (.t 52) (.c (.int .i64 0)), none⟩),
  (6, ⟨some 54, .mv (.t 53), none⟩),
  (7, ⟨some 55, .mv (.t 0), some (54, true)⟩),
  (8, ⟨some 56, .nc (.t 55), some (54, true)⟩),
  (9, ⟨some 57, .fa 5 (.t 56), some (54, true)⟩),
  (10, ⟨some 58, .ld none (.t 57), some (54, true)⟩),
  (11, ⟨some 59, .mv (.t 0), some (54, true)⟩),
  (12, ⟨some 60, .nc (.t 59), some (54, true)⟩),
  (13, ⟨some 61, .fa 2 (.t 60), some (54, true)⟩),
  (14, ⟨some 62, .ld none (.t 61), some (54, true)⟩),
  (15, ⟨some 63, .call 61 [(.t 62)], some (54, true)⟩),
  (16, ⟨some 64, .bin .add [] (.t 58) (.t 63), some (54, true)⟩),
  (17, ⟨some 65, .mv (.t 0), some (54, true)⟩),
  (18, ⟨some 66, .nc (.t 65), some (54, true)⟩),
  (19, ⟨some 67, .fa 6 (.t 66), some (54, true)⟩),
  (20, ⟨some 68, .ld none (.t 67), some (54, true)⟩),
  (21, ⟨some 69, .bin .gtr [] (.t 64) (.t 68), some (54, true)⟩),
  (22, ⟨some 70, .pick (.t 54) (.t 69) (.c (.bool false)), none⟩)] [(10, 15), (20, 15)])
 (.cond (.t 70)
 (.regd [(0, ⟨some 71, .mv (.t 0), none⟩),
  (1, ⟨some 72, .mv (.t 0), none⟩),
  (2, ⟨some 73, .nc (.t 72), none⟩),
  (3, ⟨some 74, .fa 5 (.t 73), none⟩),
  (4, ⟨some 75, .ld none (.t 74), none⟩),
  (5, ⟨some 76, .mv (.t 0), none⟩),
  (6, ⟨some 77, .nc (.t 76), none⟩),
  (7, ⟨some 78, .fa 2 (.t 77), none⟩),
  (8, ⟨some 79, .ld none (.t 78), none⟩),
  (9, ⟨some 80, .call 61 [(.t 79)], none⟩),
  (10, ⟨some 81, .bin .add [] (.t 75) (.t 80), none⟩),
  (11, ⟨some 82, .nc (.t 71), none⟩),
  (12, ⟨some 83, .fa 6 (.t 82), none⟩),
  (13, ⟨none, .st 1 (.t 83) (.t 81), none⟩)] [(4, 9)])
 (.skip)))
 (.seq (.reg [⟨some 4, .mv (.c (.int .i64 0)), none⟩])
 (.ret))))))))),
 [.tmp 4], true⟩
/-- (*ephemeris/poll.Poll).Stop -/
def M30 : MFunc := ⟨.seq (.reg [⟨some 2, .mv (.c (.int .i64 0)), none⟩])
 (.seq (.seq (.reg [⟨some 4, .mv (.t 0), none⟩,
  ⟨some 5, .call 56 [(.t 4), (.c .nils)], none⟩,
  ⟨some 3, .mv (.t 5), none⟩])
 (.seq (.reg [⟨some 6, .mv (.t 3), none⟩,
  ⟨some 7, .bin .neq [] (.t 6) (.c (.int .i64 0)), none⟩])
 (.cond (.t 7)
 (.seq (.reg [⟨some 8, .mv (.t 3), none⟩,
  ⟨some 2, .mv (.t 8), none⟩])
 (.ret))
 (.skip))))
 (.seq (.reg [⟨some 9, .mv (.t 0), none⟩,
  ⟨some 10, .nc (.t 9), none⟩,
  ⟨some 11, .fa 8 (.t 10), none⟩,
  ⟨none, .st 1 (.t 11) (.c (.bool true)), none⟩])
 (.seq (.reg [⟨some 2, .mv (.c (.int .i64 0)), none⟩])
 (.ret)))),
 [.tmp 2], true⟩
/-- (*ephemeris/poll.Poll).Copy -/
def M31 : MFunc := ⟨.seq (.reg [⟨some 2, .mv (.c .nilp), none⟩])
 (.seq (.seq (.reg [⟨some 4, .mv (.t 0), none⟩,
  ⟨some 5, .call 57 [(.t 4)], none⟩])
 (.cond (.t 5)
 (.seq (.reg [⟨some 2, .mv (.c .nilp), none⟩])
 (.ret))
 (.skip)))
 (.seq (.reg [⟨some 6, .mv (.t 0), none⟩,
  ⟨some 7, .nc (.t 6), none⟩,
  ⟨some 8, .ld (some 10) (.t 7), none⟩,
  ⟨some 3, .al (.vals [(.int .i64 0), (.int .i64 0), (.int .i64 0), (.int .u8 0), (.int .i64 0), (.int .i64 0), (.int .i64 0), (.int .i64 0), (.bool false), (.bool false)]), none⟩,
  ⟨none, .st 10 (.t 3) (.t 8), none⟩])
 (.seq (.reg [⟨some 2, .mv (.t 3), none⟩])
 (.ret)))),
 [.tmp 2], true⟩
/-- (*ephemeris/ephemerisref17.Poll).Reach -/
def M32 : MFunc := ⟨.seq (.reg [⟨some 2, .mv (.c (.int .u8 0)), none⟩])
 (.seq (.reg [⟨some 3, .mv (.c (.int .u8 0)), none⟩])
 (.seq (.reg [⟨some 6, .mv (.t 0), none⟩,
  ⟨some 7, .nc (.t 6), none⟩,
  ⟨some 8, .fa 3 (.t 7), none⟩,
  ⟨some 9, .ld none (.t 8), none⟩,
  ⟨some 10, .len none (.t 9), none⟩,
  ⟨some 4, .mv (.t 10), none⟩])
 (.seq (.seq (.reg [⟨some 11, .mv (.t 4), none⟩,
  ⟨some 12, .bin .lss [] (.t 11) (.c (.int .i64 8)), none⟩,
  ⟨some 13, .mv (.t 12), none⟩,
  ⟨some 14, .mv (.t 0), some (13, true)⟩,
  ⟨some 15, .nc (.t 14), some (13, true)⟩,
  ⟨some 16, .fa 8 (.t 15), some (13, true)⟩,
  ⟨some 17, .ld none (.t 16), some (13, true)⟩,
  ⟨some 18, .pick (.t 13) (.t 17) (.c (.bool false)), none⟩])
 (.cond (.t 18)
 (.reg [⟨some 3, .mv (.c (.int .u8 1)), none⟩])
 (.skip)))
 (.seq (.seq (.reg [⟨some 5, .mv (.c (.int .i64 0)), none⟩])
 (.block 0 [3]
 (.loop [0, 3, 4, 5]
 (.seq (.seq (.reg [⟨some 19, .mv (.t 5), none⟩,
  ⟨some 20, .mv (.t 4), none⟩,
  ⟨some 21, .bin .lss [] (.t 19) (.t 20), none⟩])
 (.cond (.t 21)
 (.skip)
 (.exit 0)))
 (.seq (.block 1 [0, 3, 4, 5]
 (.seq (.seq (.reg [⟨some 24, .mv (.t 5), none⟩,
  ⟨some 25, .mv (.t 4), none⟩,
  ⟨some 26, .bin .sub [] (.t 25) (.c (.int .i64 8)), none⟩,
  ⟨some 27, .bin .lss [] (.t 24) (.t 26), none⟩])
 (.cond (.t 27)
 (.exit 1)
 (.skip)))
 (.seq (.reg [⟨some 28, .mv (.t 3), none⟩,
  ⟨some 29, .bin .mul [] (.t 28) (.c (.int .u8 2)), none⟩,
  ⟨some 3, .mv (.t 29), none⟩])
 (.seq (.reg [⟨some 30, .mv (.t 0), none⟩,
  ⟨some 31, .nc (.t 30), none⟩,
  ⟨some 32, .fa 3 (.t 31), none⟩,
  ⟨some 33, .ld none (.t 32), none⟩,
  ⟨some 34, .mv (.t 5), none⟩,
  ⟨some 35, .ia none 1 (.t 33) (.t 34), none⟩,
  ⟨some 36, .ld none (.t 35), none⟩])
 (.cond (.t 36)
 (.reg [⟨some 37, .mv (.t 3), none⟩,
  ⟨some 38, .bin .add [] (.t 37) (.c (.int .u8 1)), none⟩,
  ⟨some 3, .mv (.t 38), none⟩])
 (.skip))))))
 (.reg [⟨some 22, .mv (.t 5), none⟩,
  ⟨some 23, .bin .add [] (.t 22) (.c (.int .i64 1)), none⟩,
  ⟨some 5, .mv (.t 23), none⟩]))))))
 (.seq (.reg [⟨some 39, .mv (.t 3), none⟩,
  ⟨some 2, .mv (.t 39), none⟩])
 (.ret)))))),
 [.tmp 2], true⟩
/-- (*ephemeris/ephemerisref17.Poll).Due -/
def M33 : MFunc := ⟨.seq (.reg [⟨some 4, .mv (.c (.bool false)), none⟩])
 (.seq (.reg [⟨some 5, .mv (.t 0), none⟩,
  ⟨some 6, .nc (.t 5), none⟩,
  ⟨some 7, .fa 7 (.t 6), none⟩,
  ⟨some 8, .ld none (.t 7), none⟩,
  ⟨some 9, .un .not (.t 8), none⟩,
  ⟨some 10, .mv (.t 9), none⟩,
  ⟨some 11, .mv (.t 1), some (10, true)⟩,
  ⟨some 12, .mv (.t 0), some (10, true)⟩,
  ⟨some 13, .nc (.t 12), some (10, true)⟩,
  ⟨some 14, .fa 6 (.t 13), some (10, true)⟩,
  ⟨some 15, .ld none (.t 14), some (10, true)⟩,
  ⟨some 16, .bin .geq [] (.t 11) (.t 15), some (10, true)⟩,
  ⟨some 17, .pick (.t 10) (.t 16) (.c (.bool false)), none⟩,
  ⟨some 4, .mv (.t 17), none⟩])
 (.ret)),
 [.tmp 4], true⟩
/-- ephemeris/ephemerisref03.Own -/
def M34 : MFunc := ⟨.seq (.reg [⟨some 2, .mv (.c .nils), none⟩])
 (.seq (.reg [⟨some 3, .mv (.c .nils), none⟩])
 (.seq (.reg [⟨some 4, .mv (.t 3), none⟩,
  ⟨some 5, .mv (.t 0), none⟩,
  ⟨some 6, .app (.ints .u8 [0]) 1 (.t 4) (.t 5), none⟩,
  ⟨some 2, .mv (.t 6), none⟩])
 (.ret))),
 [.tmp 2], true⟩
/-- ephemeris/octet.Lay -/
def M35 : MFunc := ⟨.seq (.reg [⟨some 3, .bx none 1 (.t 1), none⟩,
  ⟨some 4, .mv (.c .nils), none⟩,
  ⟨some 5, .mv (.c (.int .i64 0)), none⟩])
 (.seq (.reg [⟨some 10, .mv (.t 0), none⟩,
  ⟨some 11, .call 39 [(.t 10)], none⟩,
  ⟨some 9, .mv (.t 11), none⟩,
  ⟨some 12, .ex 0 (.t 9), none⟩,
  ⟨some 13, .ex 1 (.t 9), none⟩,
  ⟨some 7, .al (.ints .i64 [0]), none⟩,
  ⟨some 6, .mv (.t 12), none⟩,
  ⟨none, .st 1 (.t 7) (.t 13), none⟩])
 (.seq (.seq (.reg [⟨some 14, .ld none (.t 7), none⟩,
  ⟨some 15, .bin .neq [] (.t 14) (.c (.int .i64 0)), none⟩,
  ⟨some 16, .mv (.t 15), none⟩,
  ⟨some 17, .mv (.t 0), some (16, false)⟩,
  ⟨some 18, .len none (.t 17), some (16, false)⟩,
  ⟨some 19, .ld none (.t 3), some (16, false)⟩,
  ⟨some 20, .len none (.t 19), some (16, false)⟩,
  ⟨some 21, .bin .neq [] (.t 18) (.t 20), some (16, false)⟩,
  ⟨some 22, .pick (.t 16) (.c (.bool true)) (.t 21), none⟩])
 (.cond (.t 22)
 (.seq (.reg [⟨some 4, .mv (.c .nils), none⟩,
  ⟨some 5, .mv (.c (.int .i64 1)), none⟩])
 (.ret))
 (.skip)))
 (.seq (.reg [⟨some 23, .mv (.t 6), none⟩,
  ⟨some 24, .mks (.ints .u8 [0]) 1 (.t 23) (.t 23), none⟩,
  ⟨some 8, .mv (.t 24), none⟩])
 (.seq (.reg [⟨some 25, .mv (.t 0), none⟩,
  ⟨some 26, .mv (.t 8), none⟩,
  ⟨some 27, .mf 63 [(.t 3), (.t 7)], none⟩,
  ⟨some 28, .call 62 [(.t 25), (.t 26), (.t 27)], none⟩])
 (.seq (.seq (.reg [⟨some 29, .ld none (.t 7), none⟩,
  ⟨some 30, .bin .neq [] (.t 29) (.c (.int .i64 0)), none⟩])
 (.cond (.t 30)
 (.seq (.regd [(0, ⟨some 31, .ld none (.t 7), none⟩),
  (1, ⟨some 4, .mv (.c .nils), none⟩),
  (2, ⟨some 5, .mv (.t 31), none⟩)] [])
 (.ret))
 (.skip)))
 (.seq (.reg [⟨some 32, .mv (.t 8), none⟩,
  ⟨some 4, .mv (.t 32), none⟩,
  ⟨some 5, .mv (.c (.int .i64 0)), none⟩])
 (.ret))))))),
 [.tmp 4, .tmp 5], true⟩
/-- ephemeris/ephemerisref03.Lay -/
def M36 : MFunc := ⟨.seq (.reg [⟨some 4, .mv (.c .nils), none⟩,
  ⟨some 5, .mv (.c (.int .i64 0)), none⟩])
 (.seq (.seq (.reg [⟨some 10, .mv (.t 0), none⟩,
  ⟨some 11, .call 40 [(.t 10)], none⟩,
  ⟨some 12, .bin .lss [] (.t 11) (.c (.int .i64 0)), none⟩,
  ⟨some 13, .mv (.t 12), none⟩,
  ⟨some 14, .mv (.t 1), some (13, false)⟩,
  ⟨some 15, .len none (.t 14), some (13, false)⟩,
  ⟨some 16, .mv (.t 0), some (13, false)⟩,
  ⟨some 17, .len none (.t 16), some (13, false)⟩,
  ⟨some 18, .bin .neq [] (.t 15) (.t 17), some (13, false)⟩,
  ⟨some 19, .pick (.t 13) (.c (.bool true)) (.t 18), none⟩])
 (.cond (.t 19)
 (.seq (.reg [⟨some 4, .mv (.c .nils), none⟩,
  ⟨some 5, .mv (.c (.int .i64 1)), none⟩])
 (.ret))
 (.skip)))
 (.seq (.reg [⟨some 6, .mv (.c .nils), none⟩])
 (.seq (.seq (.reg [⟨some 7, .mv (.c (.int .i64 0)), none⟩])
 (.block 0 [6]
 (.loop [0, 1, 6, 7]
 (.seq (.seq (.reg [⟨some 20, .mv (.t 7), none⟩,
  ⟨some 21, .mv (.t 1), none⟩,
  ⟨some 22, .len none (.t 21), none⟩,
  ⟨some 23, .bin .lss [] (.t 20) (.t 22), none⟩])
 (.cond (.t 23)
 (.skip)
 (.exit 0)))
 (.seq (.block 1 [0, 1, 6, 7]
 (.seq (.regd [(0, ⟨some 27, .mv (.t 1), none⟩),
  (1, ⟨some 28, .mv (.t 7), none⟩),
  (2, ⟨some 29, .ia none 1 (.t 27) (.t 28), none⟩),
  (3, ⟨some 30, .ld none (.t 29), none⟩),
  (4, ⟨some 31, .mv (.t 0), none⟩),
  (5, ⟨some 32, .mv (.t 7), none⟩),
  (6, ⟨some 33, .ia none 1 (.t 31) (.t 32), none⟩),
  (7, ⟨some 34, .ld none (.t 33), none⟩),
  (8, ⟨some 35, .call 66 [(.t 30), (.t 34)], none⟩),
  (9, ⟨some 26, .mv (.t 35), none⟩),
  (10, ⟨some 36, .ex 0 (.t 26), none⟩),
  (11, ⟨some 37, .ex 1 (.t 26), none⟩),
  (12, ⟨some 8, .mv (.t 36), none⟩),
  (13, ⟨some 9, .mv (.t 37), none⟩)] [])
 (.seq (.seq (.reg [⟨some 38, .mv (.t 9), none⟩,
  ⟨some 39, .un .not (.t 38), none⟩])
 (.cond (.t 39)
 (.seq (.reg [⟨some 4, .mv (.c .nils), none⟩,
  ⟨some 5, .mv (.c (.int .i64 20)), none⟩])
 (.ret))
 (.skip)))
 (.reg [⟨some 40, .mv (.t 6), none⟩,
  ⟨some 41, .mv (.t 8), none⟩,
  ⟨some 42, .app (.ints .u8 [0]) 1 (.t 40) (.t 41), none⟩,
  ⟨some 6, .mv (.t 42), none⟩]))))
 (.reg [⟨some 24, .mv (.t 7), none⟩,
  ⟨some 25, .bin .add [] (.t 24) (.c (.int .i64 1)), none⟩,
  ⟨some 7, .mv (.t 25), none⟩]))))))
 (.seq (.reg [⟨some 43, .mv (.t 6), none⟩,
  ⟨some 4, .mv (.t 43), none⟩,
  ⟨some 5, .mv (.c (.int .i64 0)), none⟩])
 (.ret))))),
 [.tmp 4, .tmp 5], true⟩
/-- ephemeris/octet.Take -/
def M37 : MFunc := ⟨.seq (.reg [⟨some 4, .mv (.c .nils), none⟩,
  ⟨some 5, .mv (.c .nils), none⟩,
  ⟨some 6, .mv (.c (.int .i64 0)), none⟩])
 (.seq (.reg [⟨some 11, .mv (.t 0), none⟩,
  ⟨some 12, .call 39 [(.t 11)], none⟩,
  ⟨some 10, .mv (.t 12), none⟩,
  ⟨some 13, .ex 0 (.t 10), none⟩,
  ⟨some 14, .ex 1 (.t 10), none⟩,
  ⟨some 7, .mv (.t 13), none⟩,
  ⟨some 8, .mv (.t 14), none⟩])
 (.seq (.block 0 [0, 1, 7]
 (.seq (.reg [⟨some 16, .mv (.t 8), none⟩,
  ⟨some 17, .bin .neq [] (.t 16) (.c (.int .i64 0)), none⟩,
  ⟨some 15, .mv (.t 17), none⟩])
 (.cond (.t 15)
 (.seq (.reg [⟨some 18, .mv (.t 8), none⟩,
  ⟨some 4, .mv (.c .nils), none⟩,
  ⟨some 5, .mv (.c .nils), none⟩,
  ⟨some 6, .mv (.t 18), none⟩])
 (.ret))
 (.seq (.reg [⟨some 20, .mv (.t 7), none⟩,
  ⟨some 21, .mv (.t 1), none⟩,
  ⟨some 22, .len none (.t 21), none⟩,
  ⟨some 23, .bin .gtr [] (.t 20) (.t 22), none⟩,
  ⟨some 19, .mv (.t 23), none⟩])
 (.cond (.t 19)
 (.seq (.reg [⟨some 4, .mv (.c .nils), none⟩,
  ⟨some 5, .mv (.c .nils), none⟩,
  ⟨some 6, .mv (.c (.int .i64 4)), none⟩])
 (.ret))
 (.skip))))))
 (.seq (.reg [⟨some 9, .al (.vals [.nils]), none⟩])
 (.seq (.reg [⟨some 24, .mv (.t 0), none⟩,
  ⟨some 25, .mv (.t 1), none⟩,
  ⟨some 26, .mf 67 [(.t 9)], none⟩,
  ⟨some 27, .call 62 [(.t 24), (.t 25), (.t 26)], none⟩])
 (.seq (.regd [(0, ⟨some 28, .ld none (.t 9), none⟩),
  (1, ⟨some 29, .mv (.t 1), none⟩),
  (2, ⟨some 30, .mv (.t 7), none⟩),
  (3, ⟨some 31, .slc none 1 (.t 29) (some (.t 30)) none none, none⟩),
  (4, ⟨some 32, .call 69 [(.t 31)], none⟩),
  (5, ⟨some 4, .mv (.t 28), none⟩),
  (6, ⟨some 5, .mv (.t 32), none⟩),
  (7, ⟨some 6, .mv (.c (.int .i64 0)), none⟩)] [(0, 4)])
 (.ret)))))),
 [.tmp 4, .tmp 5, .tmp 6], true⟩
/-- ephemeris/ephemerisref03.Take -/
def M38 : MFunc := ⟨.seq (.reg [⟨some 4, .mv (.c .nils), none⟩,
  ⟨some 5, .mv (.c .nils), none⟩,
  ⟨some 6, .mv (.c (.int .i64 0)), none⟩])
 (.seq (.reg [⟨some 11, .mv (.t 0), none⟩,
  ⟨some 12, .call 40 [(.t 11)], none⟩,
  ⟨some 7, .mv (.t 12), none⟩])
 (.seq (.seq (.reg [⟨some 13, .mv (.t 7), none⟩,
  ⟨some 14, .bin .lss [] (.t 13) (.c (.int .i64 0)), none⟩])
 (.cond (.t 14)
 (.seq (.reg [⟨some 4, .mv (.c .nils), none⟩,
  ⟨some 5, .mv (.c .nils), none⟩,
  ⟨some 6, .mv (.c (.int .i64 1)), none⟩])
 (.ret))
 (.skip)))
 (.seq (.seq (.reg [⟨some 15, .mv (.t 1), none⟩,
  ⟨some 16, .len none (.t 15), none⟩,
  ⟨some 17, .mv (.t 7), none⟩,
  ⟨some 18, .bin .lss [] (.t 16) (.t 17), none⟩])
 (.cond (.t 18)
 (.seq (.reg [⟨some 4, .mv (.c .nils), none⟩,
  ⟨some 5, .mv (.c .nils), none⟩,
  ⟨some 6, .mv (.c (.int .i64 4)), none⟩])
 (.ret))
 (.skip)))
 (.seq (.reg [⟨some 8, .mv (.c .nils), none⟩])
 (.seq (.reg [⟨some 9, .mv (.c (.int .i64 0)), none⟩])
 (.seq (.seq (.reg [⟨some 10, .mv (.c (.int .i64 0)), none⟩])
 (.block 0 [1, 8, 9]
 (.loop [0, 1, 8, 9, 10]
 (.seq (.seq (.reg [⟨some 19, .mv (.t 10), none⟩,
  ⟨some 20, .mv (.t 0), none⟩,
  ⟨some 21, .len none (.t 20), none⟩,
  ⟨some 22, .bin .lss [] (.t 19) (.t 21), none⟩])
 (.cond (.t 22)
 (.skip)
 (.exit 0)))
 (.seq (.block 1 [0, 1, 8, 9, 10]
 (.seq (.reg [⟨some 25, .mv (.t 8), none⟩,
  ⟨some 26, .mv (.t 1), none⟩,
  ⟨some 27, .mv (.t 9), none⟩,
  ⟨some 28, .mv (.t 9), none⟩,
  ⟨some 29, .mv (.t 0), none⟩,
  ⟨some 30, .mv (.t 10), none⟩,
  ⟨some 31, .ia none 1 (.t 29) (.t 30), none⟩,
  ⟨some 32, .ld none (.t 31), none⟩,
  ⟨some 33, .bin .add [] (.t 28) (.t 32), none⟩,
  ⟨some 34, .slc none 1 (.t 26) (some (.t 27)) (some (.t 33)) none, none⟩,
  ⟨some 35, .call 70 [(.t 34)], none⟩,
  ⟨some 36, .bsl (.ints .u64 [0]) 1 1 [(0, 1, (.t 35))], none⟩,
  ⟨some 37, .app (.ints .u64 [0]) 8 (.t 25) (.t 36), none⟩,
  ⟨some 8, .mv (.t 37), none⟩])
 (.reg [⟨some 38, .mv (.t 9), none⟩,
  ⟨some 39, .mv (.t 0), none⟩,
  ⟨some 40, .mv (.t 10), none⟩,
  ⟨some 41, .ia none 1 (.t 39) (.t 40), none⟩,
  ⟨some 42, .ld none (.t 41), none⟩,
  ⟨some 43, .bin .add [] (.t 38) (.t 42), none⟩,
  ⟨some 9, .mv (.t 43), none⟩])))
 (.reg [⟨some 23, .mv (.t 10), none⟩,
  ⟨some 24, .bin .add [] (.t 23) (.c (.int .i64 1)), none⟩,
  ⟨some 10, .mv (.t 24), none⟩]))))))
 (.seq (.reg [⟨some 44, .mv (.t 8), none⟩,
  ⟨some 45, .mv (.t 1), none⟩,
  ⟨some 46, .mv (.t 9), none⟩,
  ⟨some 47, .slc none 1 (.t 45) (some (.t 46)) none none, none⟩,
  ⟨some 48, .call 34 [(.t 47)], none⟩,
  ⟨some 4, .mv (.t 44), none⟩,
  ⟨some 5, .mv (.t 48), none⟩,
  ⟨some 6, .mv (.c (.int .i64 0)), none⟩])
 (.ret)))))))),
 [.tmp 4, .tmp 5, .tmp 6], true⟩
/-- ephemeris/octet.Width -/
def M39 : MFunc := ⟨.seq (.reg [⟨some 2, .mv (.c (.int .i64 0)), none⟩,
  ⟨some 3, .mv (.c (.int .i64 0)), none⟩])
 (.seq (.seq (.reg [⟨some 7, .mv (.t 0), none⟩,
  ⟨some 8, .call 71 [(.t 7), (.f 72)], none⟩])
 (.cond (.t 8)
 (.seq (.reg [⟨some 2, .mv (.c (.int .i64 0)), none⟩,
  ⟨some 3, .mv (.c (.int .i64 1)), none⟩])
 (.ret))
 (.skip)))
 (.seq (.reg [⟨some 4, .mv (.c (.int .i64 0)), none⟩])
 (.seq (.seq (.reg [⟨some 9, .mv (.t 0), none⟩,
  ⟨some 10, .len none (.t 9), none⟩,
  ⟨some 11, .mv (.c (.int .i64 0)), none⟩])
 (.block 0 [4]
 (.loop [4, 9, 10, 11]
 (.seq (.reg [⟨some 12, .bin .lss [] (.t 11) (.t 10), none⟩])
 (.seq (.cond (.t 12)
 (.skip)
 (.exit 0))
 (.seq (.block 1 [4, 9, 10, 11]
 (.seq (.reg [⟨some 13, .ia none 1 (.t 9) (.t 11), none⟩,
  ⟨some 14, .ld none (.t 13), none⟩,
  ⟨some 6, .mv (.t 14), none⟩])
 (.reg [⟨some 15, .mv (.t 4), none⟩,
  ⟨some 16, .mv (.t 6), none⟩,
  ⟨some 17, .bin .add [] (.t 15) (.t 16), none⟩,
  ⟨some 4, .mv (.t 17), none⟩])))
 (.reg [⟨some 18, .bin .add [] (.t 11) (.c (.int .i64 1)), none⟩,
  ⟨some 11, .mv (.t 18), none⟩])))))))
 (.seq (.reg [⟨some 19, .mv (.t 4), none⟩,
  ⟨some 2, .mv (.t 19), none⟩,
  ⟨some 3, .mv (.c (.int .i64 0)), none⟩])
 (.ret))))),
 [.tmp 2, .tmp 3], true⟩
/-- ephemeris/ephemerisref03.Width -/
def M40 : MFunc := ⟨.seq (.reg [⟨some 2, .mv (.c (.int .i64 0)), none⟩])
 (.seq (.reg [⟨some 3, .mv (.c (.int .i64 0)), none⟩])
 (.seq (.seq (.reg [⟨some 4, .mv (.c (.int .i64 0)), none⟩])
 (.block 0 [3]
 (.loop [0, 3, 4]
 (.seq (.seq (.reg [⟨some 5, .mv (.t 4), none⟩,
  ⟨some 6, .mv (.t 0), none⟩,
  ⟨some 7, .len none (.t 6), none⟩,
  ⟨some 8, .bin .lss [] (.t 5) (.t 7), none⟩])
 (.cond (.t 8)
 (.skip)
 (.exit 0)))
 (.seq (.block 1 [0, 3, 4]
 (.seq (.seq (.reg [⟨some 11, .mv (.t 0), none⟩,
  ⟨some 12, .mv (.t 4), none⟩,
  ⟨some 13, .ia none 1 (.t 11) (.t 12), none⟩,
  ⟨some 14, .ld none (.t 13), none⟩,
  ⟨some 15, .call 74 [(.t 14)], none⟩,
  ⟨some 16, .un .not (.t 15), none⟩])
 (.cond (.t 16)
 (.seq (.reg [⟨some 2, .mv (.c (.int .i64 (-1))), none⟩])
 (.ret))
 (.skip)))
 (.reg [⟨some 17, .mv (.t 3), none⟩,
  ⟨some 18, .mv (.t 0), none⟩,
  ⟨some 19, .mv (.t 4), none⟩,
  ⟨some 20, .ia none 1 (.t 18) (.t 19), none⟩,
  ⟨some 21, .ld none (.t 20), none⟩,
  ⟨some 22, .bin .add [] (.t 17) (.t 21), none⟩,
  ⟨some 3, .mv (.t 22), none⟩])))
 (.reg [⟨some 9, .mv (.t 4), none⟩,
  ⟨some 10, .bin .add [] (.t 9) (.c (.int .i64 1)), none⟩,
  ⟨some 4, .mv (.t 10), none⟩]))))))
 (.seq (.reg [⟨some 23, .mv (.t 3), none⟩,
  ⟨some 2, .mv (.t 23), none⟩])
 (.ret)))),
 [.tmp 2], true⟩
/-- bytes.Equal -/
def M41 : MFunc := ⟨.seq (.reg [⟨some 4, .mv (.c (.bool false)), none⟩])
 (.seq (.reg [⟨some 5, .mv (.t 0), none⟩,
  ⟨some 6, .cstr (.t 5), none⟩,
  ⟨some 7, .mv (.t 1), none⟩,
  ⟨some 8, .cstr (.t 7), none⟩,
  ⟨some 9, .bin .eql [] (.t 6) (.t 8), none⟩,
  ⟨some 4, .mv (.t 9), none⟩])
 (.ret)),
 [.tmp 4], true⟩
/-- slices.Equal[[]uint64,uint64] -/
def M42 : MFunc := ⟨.seq (.reg [⟨some 4, .mv (.c (.bool false)), none⟩])
 (.seq (.seq (.reg [⟨some 6, .mv (.t 0), none⟩,
  ⟨some 7, .len none (.t 6), none⟩,
  ⟨some 8, .mv (.t 1), none⟩,
  ⟨some 9, .len none (.t 8), none⟩,
  ⟨some 10, .bin .neq [] (.t 7) (.t 9), none⟩])
 (.cond (.t 10)
 (.seq (.reg [⟨some 4, .mv (.c (.bool false)), none⟩])
 (.ret))
 (.skip)))
 (.seq (.seq (.reg [⟨some 11, .mv (.t 0), none⟩,
  ⟨some 12, .len none (.t 11), none⟩,
  ⟨some 13, .mv (.c (.int .i64 0)), none⟩])
 (.block 0 []
 (.loop [0, 1, 12, 13]
 (.seq (.reg [⟨some 14, .bin .lss [] (.t 13) (.t 12), none⟩])
 (.seq (.cond (.t 14)
 (.skip)
 (.exit 0))
 (.seq (.block 1 [0, 1, 12, 13]
 (.seq (.reg [⟨some 15, .mv (.t 13), none⟩,
  ⟨some 5, .mv (.t 15), none⟩])
 (.seq (.regd [(0, ⟨some 16, .mv (.t 0), none⟩),
  (1, ⟨some 17, .mv (.t 5), none⟩),
  (2, ⟨some 18, .ia none 1 (.t 16) (.t 17), none⟩),
  (3, ⟨some 19, .ld none (.t 18), none⟩),
  (4, ⟨some 20, .mv (.t 1), none⟩),
  (5, ⟨some 21, .mv (.t 5), none⟩),
  (6, ⟨some 22, .ia none 1 (.t 20) (.t 21), none⟩),
  (7, ⟨some 23, .ld none (.t 22), none⟩),
  (8, ⟨some 24, .bin .neq [] (.t 19) (.t 23), none⟩)] [])
 (.cond (.t 24)
 (.seq (.reg [⟨some 4, .mv (.c (.bool false)), none⟩])
 (.ret))
 (.skip)))))
 (.reg [⟨some 25, .bin .add [] (.t 13) (.c (.int .i64 1)), none⟩,
  ⟨some 13, .mv (.t 25), none⟩])))))))
 (.seq (.reg [⟨some 4, .mv (.c (.bool true)), none⟩])
 (.ret)))),
 [.tmp 4], true⟩
/-- ephemeris/ephemerislaw03.awake -/
def M43 : MFunc := ⟨.seq (.reg [⟨some 0, .mv (.c (.bool false)), none⟩])
 (.seq (.reg [⟨some 19, .bsl (.ints .i64 [0]) 2 1 [(0, 1, (.c (.int .i64 1))), (1, 1, (.c (.int .i64 2)))], none⟩,
  ⟨some 20, .bsl (.ints .u64 [0]) 2 1 [(0, 1, (.c (.int .u64 5))), (1, 1, (.c (.int .u64 4660)))], none⟩,
  ⟨some 21, .call 35 [(.t 19), (.t 20)], none⟩,
  ⟨some 18, .mv (.t 21), none⟩,
  ⟨some 22, .ex 0 (.t 18), none⟩,
  ⟨some 23, .ex 1 (.t 18), none⟩,
  ⟨some 1, .mv (.t 22), none⟩,
  ⟨some 2, .mv (.t 23), none⟩])
 (.seq (.reg [⟨some 25, .bsl (.ints .i64 [0]) 1 1 [(0, 1, (.c (.int .i64 1)))], none⟩,
  ⟨some 26, .bsl (.ints .u64 [0]) 1 1 [(0, 1, (.c (.int .u64 256)))], none⟩,
  ⟨some 27, .call 35 [(.t 25), (.t 26)], none⟩,
  ⟨some 24, .mv (.t 27), none⟩,
  ⟨some 28, .ex 0 (.t 24), none⟩,
  ⟨some 29, .ex 1 (.t 24), none⟩,
  ⟨some 3, .mv (.t 28), none⟩,
  ⟨some 4, .mv (.t 29), none⟩])
 (.seq (.reg [⟨some 31, .bsl (.ints .i64 [0]) 2 1 [(0, 1, (.c (.int .i64 1))), (1, 1, (.c (.int .i64 2)))], none⟩,
  ⟨some 32, .bsl (.ints .u8 [0]) 4 1 [(0, 1, (.c (.int .u8 5))), (1, 1, (.c (.int .u8 18))), (2, 1, (.c (.int .u8 52))), (3, 1, (.c (.int .u8 153)))], none⟩,
  ⟨some 33, .call 37 [(.t 31), (.t 32)], none⟩,
  ⟨some 30, .mv (.t 33), none⟩,
  ⟨some 34, .ex 0 (.t 30), none⟩,
  ⟨some 35, .ex 1 (.t 30), none⟩,
  ⟨some 36, .ex 2 (.t 30), none⟩,
  ⟨some 5, .mv (.t 34), none⟩,
  ⟨some 6, .mv (.t 35), none⟩,
  ⟨some 7, .mv (.t 36), none⟩])
 (.seq (.reg [⟨some 38, .call 48 [(.c (.int .u64 250)), (.c (.int .i64 1))], none⟩,
  ⟨some 37, .mv (.t 38), none⟩,
  ⟨some 39, .ex 0 (.t 37), none⟩,
  ⟨some 40, .ex 1 (.t 37), none⟩,
  ⟨some 8, .mv (.t 39), none⟩,
  ⟨some 9, .mv (.t 40), none⟩])
 (.seq (.reg [⟨some 42, .call 50 [(.c (.int .i64 (-6))), (.c (.int .i64 1))], none⟩,
  ⟨some 41, .mv (.t 42), none⟩,
  ⟨some 43, .ex 0 (.t 41), none⟩,
  ⟨some 44, .ex 1 (.t 41), none⟩,
  ⟨some 10, .mv (.t 43), none⟩,
  ⟨some 11, .mv (.t 44), none⟩])
 (.seq (.reg [⟨some 46, .call 50 [(.c (.int .i64 128)), (.c (.int .i64 1))], none⟩,
  ⟨some 45, .mv (.t 46), none⟩,
  ⟨some 47, .ex 0 (.t 45), none⟩,
  ⟨some 48, .ex 1 (.t 45), none⟩,
  ⟨some 12, .mv (.t 47), none⟩,
  ⟨some 13, .mv (.t 48), none⟩])
 (.seq (.reg [⟨some 50, .bsl (.ints .u8 [0]) 2 1 [(0, 1, (.c (.int .u8 0))), (1, 1, (.c (.int .u8 0)))], none⟩,
  ⟨some 51, .call 46 [(.t 50), (.c (.int .i64 1)), (.c (.int .i64 1)), (.c (.int .u64 7))], none⟩,
  ⟨some 49, .mv (.t 51), none⟩,
  ⟨some 52, .ex 0 (.t 49), none⟩,
  ⟨some 53, .ex 1 (.t 49), none⟩,
  ⟨some 14, .mv (.t 52), none⟩,
  ⟨some 15, .mv (.t 53), none⟩])
 (.seq (.reg [⟨some 55, .mv (.t 14), none⟩,
  ⟨some 56, .call 44 [(.t 55), (.c (.int .i64 0)), (.c (.int .i64 2))], none⟩,
  ⟨some 54, .mv (.t 56), none⟩,
  ⟨some 57, .ex 0 (.t 54), none⟩,
  ⟨some 58, .ex 1 (.t 54), none⟩,
  ⟨some 16, .mv (.t 57), none⟩,
  ⟨some 17, .mv (.t 58), none⟩])
 (.seq (.reg [⟨some 59, .mv (.t 2), none⟩,
  ⟨some 60, .bin .eql [] (.t 59) (.c (.int .i64 0)), none⟩,
  ⟨some 61, .mv (.t 60), none⟩,
  ⟨some 62, .mv (.t 1), some (61, true)⟩,
  ⟨some 63, .bsl (.ints .u8 [0]) 3 1 [(0, 1, (.c (.int .u8 5))), (1, 1, (.c (.int .u8 18))), (2, 1, (.c (.int .u8 52)))], some (61, true)⟩,
  ⟨some 64, .call 41 [(.t 62), (.t 63)], some (61, true)⟩,
  ⟨some 65, .pick (.t 61) (.t 64) (.c (.bool false)), none⟩,
  ⟨some 66, .mv (.t 65), none⟩,
  ⟨some 67, .mv (.t 4), some (66, true)⟩,
  ⟨some 68, .bin .eql [] (.t 67) (.c (.int .i64 20)), some (66, true)⟩,
  ⟨some 69, .pick (.t 66) (.t 68) (.c (.bool false)), none⟩,
  ⟨some 70, .mv (.t 69), none⟩,
  ⟨some 71, .mv (.t 7), some (70, true)⟩,
  ⟨some 72, .bin .eql [] (.t 71) (.c (.int .i64 0)), some (70, true)⟩,
  ⟨some 73, .pick (.t 70) (.t 72) (.c (.bool false)), none⟩,
  ⟨some 74, .mv (.t 73), none⟩,
  ⟨some 75, .mv (.t 5), some (74, true)⟩,
  ⟨some 76, .bsl (.ints .u64 [0]) 2 1 [(0, 1, (.c (.int .u64 5))), (1, 1, (.c (.int .u64 4660)))], some (74, true)⟩,
  ⟨some 77, .call 42 [(.t 75), (.t 76)], some (74, true)⟩,
  ⟨some 78, .pick (.t 74) (.t 77) (.c (.bool false)), none⟩,
  ⟨some 79, .mv (.t 78), none⟩,
  ⟨some 80, .mv (.t 6), some (79, true)⟩,
  ⟨some 81, .bsl (.ints .u8 [0]) 1 1 [(0, 1, (.c (.int .u8 153)))], some (79, true)⟩,
  ⟨some 82, .call 41 [(.t 80), (.t 81)], some (79, true)⟩,
  ⟨some 83, .pick (.t 79) (.t 82) (.c (.bool false)), none⟩,
  ⟨some 84, .mv (.t 83), none⟩,
  ⟨some 85, .mv (.t 9), some (84, true)⟩,
  ⟨some 86, .bin .eql [] (.t 85) (.c (.int .i64 0)), some (84, true)⟩,
  ⟨some 87, .pick (.t 84) (.t 86) (.c (.bool false)), none⟩,
  ⟨some 88, .mv (.t 87), none⟩,
  ⟨some 89, .mv (.t 8), some (88, true)⟩,
  ⟨some 90, .bin .eql [] (.t 89) (.c (.int .i64 (-6))), some (88, true)⟩,
  ⟨some 91, .pick (.t 88) (.t 90) (.c (.bool false)), none⟩,
  ⟨some 92, .mv (.t 91), none⟩,
  ⟨some 93, .mv (.t 11), some (92, true)⟩,
  ⟨some 94, .bin .eql [] (.t 93) (.c (.int .i64 0)), some (92, true)⟩,
  ⟨some 95, .pick (.t 92) (.t 94) (.c (.bool false)), none⟩,
  ⟨some 96, .mv (.t 95), none⟩,
  ⟨some 97, .mv (.t 10), some (96, true)⟩,
  ⟨some 98, .bin .eql [] (.t 97) (.c (.int .u64 250)), some (96, true)⟩,
  ⟨some 99, .pick (.t 96) (.t 98) (.c (.bool false)), none⟩,
  ⟨some 100, .mv (.t 99), none⟩,
  ⟨some 101, .mv (.t 13), some (100, true)⟩,
  ⟨some 102, .bin .eql [] (.t 101) (.c (.int .i64 20)), some (100, true)⟩,
  ⟨some 103, .pick (.t 100) (.t 102) (.c (.bool false)), none⟩,
  ⟨some 104, .mv (.t 103), none⟩,
  ⟨some 105, .mv (.t 15), some (104, true)⟩,
  ⟨some 106, .bin .eql [] (.t 105) (.c (.int .i64 0)), some (104, true)⟩,
  ⟨some 107, .pick (.t 104) (.t 106) (.c (.bool false)), none⟩,
  ⟨some 108, .mv (.t 107), none⟩,
  ⟨some 109, .mv (.t 17), some (108, true)⟩,
  ⟨some 110, .pick (.t 108) (.t 109) (.c (.bool false)), none⟩,
  ⟨some 111, .mv (.t 110), none⟩,
  ⟨some 112, .mv (.t 16), some (111, true)⟩,
  ⟨some 113, .bin .eql [] (.t 112) (.c (.int .u64 7)), some (111, true)⟩,
  ⟨some 114, .pick (.t 111) (.t 113) (.c (.bool false)), none⟩,
  ⟨some 0, .mv (.t 114), none⟩])
 (.ret)))))))))),
 [.tmp 0], true⟩
/-- ephemeris/octet.At -/
def M44 : MFunc := ⟨.seq (.reg [⟨some 6, .mv (.c (.int .u64 0)), none⟩,
  ⟨some 7, .mv (.c (.bool false)), none⟩])
 (.seq (.seq (.reg [⟨some 8, .mv (.t 2), none⟩,
  ⟨some 9, .call 73 [(.t 8)], none⟩,
  ⟨some 10, .un .not (.t 9), none⟩,
  ⟨some 11, .mv (.t 10), none⟩,
  ⟨some 12, .mv (.t 0), some (11, false)⟩,
  ⟨some 13, .mv (.t 1), some (11, false)⟩,
  ⟨some 14, .mv (.t 2), some (11, false)⟩,
  ⟨some 15, .call 75 [(.t 12), (.t 13), (.t 14)], some (11, false)⟩,
  ⟨some 16, .un .not (.t 15), some (11, false)⟩,
  ⟨some 17, .pick (.t 11) (.c (.bool true)) (.t 16), none⟩])
 (.cond (.t 17)
 (.seq (.reg [⟨some 6, .mv (.c (.int .u64 0)), none⟩,
  ⟨some 7, .mv (.c (.bool false)), none⟩])
 (.ret))
 (.skip)))
 (.seq (.reg [⟨some 18, .mv (.t 0), none⟩,
  ⟨some 19, .mv (.t 1), none⟩,
  ⟨some 20, .mv (.t 1), none⟩,
  ⟨some 21, .mv (.t 2), none⟩,
  ⟨some 22, .bin .add [] (.t 20) (.t 21), none⟩,
  ⟨some 23, .slc none 1 (.t 18) (some (.t 19)) (some (.t 22)) none, none⟩,
  ⟨some 24, .call 68 [(.t 23)], none⟩,
  ⟨some 6, .mv (.t 24), none⟩,
  ⟨some 7, .mv (.c (.bool true)), none⟩])
 (.ret))),
 [.tmp 6, .tmp 7], true⟩
/-- ephemeris/ephemerisref03.At -/
def M45 : MFunc := ⟨.seq (.reg [⟨some 6, .mv (.c (.int .u64 0)), none⟩,
  ⟨some 7, .mv (.c (.bool false)), none⟩])
 (.seq (.seq (.reg [⟨some 8, .mv (.t 2), none⟩,
  ⟨some 9, .call 74 [(.t 8)], none⟩,
  ⟨some 10, .un .not (.t 9), none⟩,
  ⟨some 11, .mv (.t 10), none⟩,
  ⟨some 12, .mv (.t 1), some (11, false)⟩,
  ⟨some 13, .bin .lss [] (.t 12) (.c (.int .i64 0)), some (11, false)⟩,
  ⟨some 14, .pick (.t 11) (.c (.bool true)) (.t 13), none⟩,
  ⟨some 15, .mv (.t 14), none⟩,
  ⟨some 16, .mv (.t 1), some (15, false)⟩,
  ⟨some 17, .mv (.t 0), some (15, false)⟩,
  ⟨some 18, .len none (.t 17), some (15, false)⟩,
  ⟨some 19, .bin .gtr [] (.t 16) (.t 18), some (15, false)⟩,
  ⟨some 20, .pick (.t 15) (.c (.bool true)) (.t 19), none⟩,
  ⟨some 21, .mv (.t 20), none⟩,
  ⟨some 22, .mv (.t 0), some (21, false)⟩,
  ⟨some 23, .len none (.t 22), some (21, false)⟩,
  ⟨some 24, .mv (.t 1), some (21, false)⟩,
  ⟨some 25, .bin .sub [] (.t 23) (.t 24), some (21, false)⟩,
  ⟨some 26, .mv (.t 2), some (21, false)⟩,
  ⟨some 27, .bin .lss [] (.t 25) (.t 26), some (21, false)⟩,
  ⟨some 28, .pick (.t 21) (.c (.bool true)) (.t 27), none⟩])
 (.cond (.t 28)
 (.seq (.reg [⟨some 6, .mv (.c (.int .u64 0)), none⟩,
  ⟨some 7, .mv (.c (.bool false)), none⟩])
 (.ret))
 (.skip)))
 (.seq (.reg [⟨some 29, .mv (.t 0), none⟩,
  ⟨some 30, .mv (.t 1), none⟩,
  ⟨some 31, .mv (.t 1), none⟩,
  ⟨some 32, .mv (.t 2), none⟩,
  ⟨some 33, .bin .add [] (.t 31) (.t 32), none⟩,
  ⟨some 34, .slc none 1 (.t 29) (some (.t 30)) (some (.t 33)) none, none⟩,
  ⟨some 35, .call 70 [(.t 34)], none⟩,
  ⟨some 6, .mv (.t 35), none⟩,
  ⟨some 7, .mv (.c (.bool true)), none⟩])
 (.ret))),
 [.tmp 6, .tmp 7], true⟩
/-- ephemeris/octet.Put -/
def M46 : MFunc := ⟨.seq (.reg [⟨some 8, .mv (.c .nils), none⟩,
  ⟨some 9, .mv (.c (.int .i64 0)), none⟩])
 (.seq (.block 0 [0, 1, 2, 3]
 (.seq (.reg [⟨some 12, .mv (.t 2), none⟩,
  ⟨some 13, .call 73 [(.t 12)], none⟩,
  ⟨some 14, .un .not (.t 13), none⟩,
  ⟨some 15, .mv (.t 14), none⟩,
  ⟨some 16, .mv (.t 1), some (15, false)⟩,
  ⟨some 17, .bin .lss [] (.t 16) (.c (.int .i64 0)), some (15, false)⟩,
  ⟨some 18, .pick (.t 15) (.c (.bool true)) (.t 17), none⟩,
  ⟨some 11, .mv (.t 18), none⟩])
 (.cond (.t 11)
 (.seq (.reg [⟨some 8, .mv (.c .nils), none⟩,
  ⟨some 9, .mv (.c (.int .i64 1)), none⟩])
 (.ret))
 (.seq (.reg [⟨some 20, .mv (.t 3), none⟩,
  ⟨some 21, .mv (.t 2), none⟩,
  ⟨some 22, .call 64 [(.t 20), (.t 21)], none⟩,
  ⟨some 23, .un .not (.t 22), none⟩,
  ⟨some 19, .mv (.t 23), none⟩])
 (.cond (.t 19)
 (.seq (.reg [⟨some 8, .mv (.c .nils), none⟩,
  ⟨some 9, .mv (.c (.int .i64 20)), none⟩])
 (.ret))
 (.seq (.reg [⟨some 25, .mv (.t 0), none⟩,
  ⟨some 26, .mv (.t 1), none⟩,
  ⟨some 27, .mv (.t 2), none⟩,
  ⟨some 28, .call 75 [(.t 25), (.t 26), (.t 27)], none⟩,
  ⟨some 29, .un .not (.t 28), none⟩,
  ⟨some 24, .mv (.t 29), none⟩])
 (.cond (.t 24)
 (.seq (.reg [⟨some 8, .mv (.c .nils), none⟩,
  ⟨some 9, .mv (.c (.int .i64 4)), none⟩])
 (.ret))
 (.skip))))))))
 (.seq (.reg [⟨some 30, .mv (.t 0), none⟩,
  ⟨some 31, .call 69 [(.t 30)], none⟩,
  ⟨some 10, .mv (.t 31), none⟩])
 (.seq (.reg [⟨some 32, .mv (.t 10), none⟩,
  ⟨some 33, .mv (.t 1), none⟩,
  ⟨some 34, .mv (.t 1), none⟩,
  ⟨some 35, .mv (.t 2), none⟩,
  ⟨some 36, .bin .add [] (.t 34) (.t 35), none⟩,
  ⟨some 37, .slc none 1 (.t 32) (some (.t 33)) (some (.t 36)) none, none⟩,
  ⟨some 38, .mv (.t 3), none⟩,
  ⟨some 39, .call 65 [(.t 37), (.t 38)], none⟩])
 (.seq (.reg [⟨some 40, .mv (.t 10), none⟩,
  ⟨some 8, .mv (.t 40), none⟩,
  ⟨some 9, .mv (.c (.int .i64 0)), none⟩])
 (.ret))))),
 [.tmp 8, .tmp 9], true⟩
/-- ephemeris/ephemerisref03.Put -/
def M47 : MFunc := ⟨.seq (.reg [⟨some 8, .mv (.c .nils), none⟩,
  ⟨some 9, .mv (.c (.int .i64 0)), none⟩])
 (.seq (.seq (.reg [⟨some 15, .mv (.t 2), none⟩,
  ⟨some 16, .call 74 [(.t 15)], none⟩,
  ⟨some 17, .un .not (.t 16), none⟩,
  ⟨some 18, .mv (.t 17), none⟩,
  ⟨some 19, .mv (.t 1), some (18, false)⟩,
  ⟨some 20, .bin .lss [] (.t 19) (.c (.int .i64 0)), some (18, false)⟩,
  ⟨some 21, .pick (.t 18) (.c (.bool true)) (.t 20), none⟩])
 (.cond (.t 21)
 (.seq (.reg [⟨some 8, .mv (.c .nils), none⟩,
  ⟨some 9, .mv (.c (.int .i64 1)), none⟩])
 (.ret))
 (.skip)))
 (.seq (.reg [⟨some 23, .mv (.t 3), none⟩,
  ⟨some 24, .mv (.t 2), none⟩,
  ⟨some 25, .call 66 [(.t 23), (.t 24)], none⟩,
  ⟨some 22, .mv (.t 25), none⟩,
  ⟨some 26, .ex 0 (.t 22), none⟩,
  ⟨some 27, .ex 1 (.t 22), none⟩,
  ⟨some 10, .mv (.t 26), none⟩,
  ⟨some 11, .mv (.t 27), none⟩])
 (.seq (.seq (.reg [⟨some 28, .mv (.t 11), none⟩,
  ⟨some 29, .un .not (.t 28), none⟩])
 (.cond (.t 29)
 (.seq (.reg [⟨some 8, .mv (.c .nils), none⟩,
  ⟨some 9, .mv (.c (.int .i64 20)), none⟩])
 (.ret))
 (.skip)))
 (.seq (.reg [⟨some 31, .mv (.t 0), none⟩,
  ⟨some 32, .mv (.t 1), none⟩,
  ⟨some 33, .mv (.t 2), none⟩,
  ⟨some 34, .call 45 [(.t 31), (.t 32), (.t 33)], none⟩,
  ⟨some 30, .mv (.t 34), none⟩,
  ⟨some 35, .ex 0 (.t 30), none⟩,
  ⟨some 36, .ex 1 (.t 30), none⟩,
  ⟨some 12, .mv (.t 35), none⟩,
  ⟨some 13, .mv (.t 36), none⟩])
 (.seq (.seq (.reg [⟨some 37, .mv (.t 13), none⟩,
  ⟨some 38, .un .not (.t 37), none⟩])
 (.cond (.t 38)
 (.seq (.reg [⟨some 8, .mv (.c .nils), none⟩,
  ⟨some 9, .mv (.c (.int .i64 4)), none⟩])
 (.ret))
 (.skip)))
 (.seq (.reg [⟨some 39, .mv (.t 0), none⟩,
  ⟨some 40, .mv (.t 1), none⟩,
  ⟨some 41, .slc none 1 (.t 39) none (some (.t 40)) none, none⟩,
  ⟨some 42, .call 34 [(.t 41)], none⟩,
  ⟨some 14, .mv (.t 42), none⟩])
 (.seq (.reg [⟨some 43, .mv (.t 14), none⟩,
  ⟨some 44, .mv (.t 10), none⟩,
  ⟨some 45, .app (.ints .u8 [0]) 1 (.t 43) (.t 44), none⟩,
  ⟨some 14, .mv (.t 45), none⟩])
 (.seq (.reg [⟨some 46, .mv (.t 14), none⟩,
  ⟨some 47, .mv (.t 0), none⟩,
  ⟨some 48, .mv (.t 1), none⟩,
  ⟨some 49, .mv (.t 2), none⟩,
  ⟨some 50, .bin .add [] (.t 48) (.t 49), none⟩,
  ⟨some 51, .slc none 1 (.t 47) (some (.t 50)) none none, none⟩,
  ⟨some 52, .app (.ints .u8 [0]) 1 (.t 46) (.t 51), none⟩,
  ⟨some 8, .mv (.t 52), none⟩,
  ⟨some 9, .mv (.c (.int .i64 0)), none⟩])
 (.ret))))))))),
 [.tmp 8, .tmp 9], true⟩
/-- ephemeris/octet.Signed -/
def M48 : MFunc := ⟨.seq (.reg [⟨some 4, .mv (.c (.int .i64 0)), none⟩,
  ⟨some 5, .mv (.c (.int .i64 0)), none⟩])
 (.seq (.block 0 [0, 1]
 (.seq (.reg [⟨some 8, .mv (.t 1), none⟩,
  ⟨some 9, .call 73 [(.t 8)], none⟩,
  ⟨some 10, .un .not (.t 9), none⟩,
  ⟨some 7, .mv (.t 10), none⟩])
 (.cond (.t 7)
 (.seq (.reg [⟨some 4, .mv (.c (.int .i64 0)), none⟩,
  ⟨some 5, .mv (.c (.int .i64 1)), none⟩])
 (.ret))
 (.seq (.reg [⟨some 12, .mv (.t 0), none⟩,
  ⟨some 13, .mv (.t 1), none⟩,
  ⟨some 14, .call 64 [(.t 12), (.t 13)], none⟩,
  ⟨some 15, .un .not (.t 14), none⟩,
  ⟨some 11, .mv (.t 15), none⟩])
 (.cond (.t 11)
 (.seq (.reg [⟨some 4, .mv (.c (.int .i64 0)), none⟩,
  ⟨some 5, .mv (.c (.int .i64 20)), none⟩])
 (.ret))
 (.skip))))))
 (.seq (.reg [⟨some 16, .mv (.t 1), none⟩,
  ⟨some 17, .bin .sub [] (.c (.int .i64 8)) (.t 16), none⟩,
  ⟨some 18, .bin .mul [] (.c (.int .i64 8)) (.t 17), none⟩,
  ⟨some 6, .mv (.t 18), none⟩])
 (.seq (.reg [⟨some 19, .mv (.t 0), none⟩,
  ⟨some 20, .mv (.t 6), none⟩,
  ⟨some 21, .bin .shl [] (.t 19) (.t 20), none⟩,
  ⟨some 22, .ci .i64 (.t 21), none⟩,
  ⟨some 23, .mv (.t 6), none⟩,
  ⟨some 24, .bin .shr [] (.t 22) (.t 23), none⟩,
  ⟨some 4, .mv (.t 24), none⟩,
  ⟨some 5, .mv (.c (.int .i64 0)), none⟩])
 (.ret)))),
 [.tmp 4, .tmp 5], true⟩
/-- ephemeris/ephemerisref03.Signed -/
def M49 : MFunc := ⟨.seq (.reg [⟨some 4, .mv (.c (.int .i64 0)), none⟩,
  ⟨some 5, .mv (.c (.int .i64 0)), none⟩])
 (.seq (.seq (.reg [⟨some 9, .mv (.t 1), none⟩,
  ⟨some 10, .call 74 [(.t 9)], none⟩,
  ⟨some 11, .un .not (.t 10), none⟩])
 (.cond (.t 11)
 (.seq (.reg [⟨some 4, .mv (.c (.int .i64 0)), none⟩,
  ⟨some 5, .mv (.c (.int .i64 1)), none⟩])
 (.ret))
 (.skip)))
 (.seq (.reg [⟨some 13, .mv (.t 0), none⟩,
  ⟨some 14, .mv (.t 1), none⟩,
  ⟨some 15, .call 66 [(.t 13), (.t 14)], none⟩,
  ⟨some 12, .mv (.t 15), none⟩,
  ⟨some 16, .ex 0 (.t 12), none⟩,
  ⟨some 17, .ex 1 (.t 12), none⟩,
  ⟨some 6, .mv (.t 16), none⟩,
  ⟨some 7, .mv (.t 17), none⟩])
 (.seq (.seq (.reg [⟨some 18, .mv (.t 7), none⟩,
  ⟨some 19, .un .not (.t 18), none⟩])
 (.cond (.t 19)
 (.seq (.reg [⟨some 4, .mv (.c (.int .i64 0)), none⟩,
  ⟨some 5, .mv (.c (.int .i64 20)), none⟩])
 (.ret))
 (.skip)))
 (.seq (.seq (.reg [⟨some 20, .mv (.t 6), none⟩,
  ⟨some 21, .ia none 1 (.t 20) (.c (.int .i64 0)), none⟩,
  ⟨some 22, .ld none (.t 21), none⟩,
  ⟨some 23, .bin .lss [] (.t 22) (.c (.int .u8 128)), none⟩])
 (.cond (.t 23)
 (.seq (.reg [⟨some 24, .mv (.t 0), none⟩,
  ⟨some 25, .ci .i64 (.t 24), none⟩,
  ⟨some 4, .mv (.t 25), none⟩,
  ⟨some 5, .mv (.c (.int .i64 0)), none⟩])
 (.ret))
 (.skip)))
 (.seq (.seq (.reg [⟨some 8, .mv (.c (.int .i64 0)), none⟩])
 (.block 0 [6]
 (.loop [6, 8]
 (.seq (.seq (.reg [⟨some 26, .mv (.t 8), none⟩,
  ⟨some 27, .mv (.t 6), none⟩,
  ⟨some 28, .len none (.t 27), none⟩,
  ⟨some 29, .bin .lss [] (.t 26) (.t 28), none⟩])
 (.cond (.t 29)
 (.skip)
 (.exit 0)))
 (.seq (.block 1 [6, 8]
 (.reg [⟨some 32, .mv (.t 6), none⟩,
  ⟨some 33, .mv (.t 8), none⟩,
  ⟨some 34, .mv (.t 6), none⟩,
  ⟨some 35, .mv (.t 8), none⟩,
  ⟨some 36, .ia none 1 (.t 34) (.t 35), none⟩,
  ⟨some 37, .ld none (.t 36), none⟩,
  ⟨some 38, .bin .sub [] (.c (.int .u8 255)) (.t 37), none⟩,
  ⟨some 39, .ia none 1 (.t 32) (.t 33), none⟩,
  ⟨none, .st 1 (.t 39) (.t 38), none⟩]))
 (.reg [⟨some 30, .mv (.t 8), none⟩,
  ⟨some 31, .bin .add [] (.t 30) (.c (.int .i64 1)), none⟩,
  ⟨some 8, .mv (.t 31), none⟩]))))))
 (.seq (.reg [⟨some 40, .mv (.t 6), none⟩,
  ⟨some 41, .call 70 [(.t 40)], none⟩,
  ⟨some 42, .ci .i64 (.t 41), none⟩,
  ⟨some 43, .un .neg (.t 42), none⟩,
  ⟨some 44, .bin .sub [] (.t 43) (.c (.int .i64 1)), none⟩,
  ⟨some 4, .mv (.t 44), none⟩,
  ⟨some 5, .mv (.c (.int .i64 0)), none⟩])
 (.ret))))))),
 [.tmp 4, .tmp 5], true⟩
/-- ephemeris/octet.Unsigned -/
def M50 : MFunc := ⟨.seq (.reg [⟨some 4, .mv (.c (.int .u64 0)), none⟩,
  ⟨some 5, .mv (.c (.int .i64 0)), none⟩])
 (.seq (.seq (.reg [⟨some 7, .mv (.t 1), none⟩,
  ⟨some 8, .call 73 [(.t 7)], none⟩,
  ⟨some 9, .un .not (.t 8), none⟩])
 (.cond (.t 9)
 (.seq (.reg [⟨some 4, .mv (.c (.int .u64 0)), none⟩,
  ⟨some 5, .mv (.c (.int .i64 1)), none⟩])
 (.ret))
 (.skip)))
 (.seq (.reg [⟨some 10, .mv (.t 1), none⟩,
  ⟨some 11, .bin .sub [] (.c (.int .i64 8)) (.t 10), none⟩,
  ⟨some 12, .bin .mul [] (.c (.int .i64 8)) (.t 11), none⟩,
  ⟨some 6, .mv (.t 12), none⟩])
 (.seq (.seq (.reg [⟨some 13, .mv (.t 0), none⟩,
  ⟨some 14, .mv (.t 6), none⟩,
  ⟨some 15, .bin .shl [] (.t 13) (.t 14), none⟩,
  ⟨some 16, .mv (.t 6), none⟩,
  ⟨some 17, .bin .shr [] (.t 15) (.t 16), none⟩,
  ⟨some 18, .mv (.t 0), none⟩,
  ⟨some 19, .bin .neq [] (.t 17) (.t 18), none⟩])
 (.cond (.t 19)
 (.seq (.reg [⟨some 4, .mv (.c (.int .u64 0)), none⟩,
  ⟨some 5, .mv (.c (.int .i64 20)), none⟩])
 (.ret))
 (.skip)))
 (.seq (.reg [⟨some 20, .mv (.t 0), none⟩,
  ⟨some 21, .ci .u64 (.t 20), none⟩,
  ⟨some 22, .mv (.t 6), none⟩,
  ⟨some 23, .bin .shl [] (.t 21) (.t 22), none⟩,
  ⟨some 24, .mv (.t 6), none⟩,
  ⟨some 25, .bin .shr [] (.t 23) (.t 24), none⟩,
  ⟨some 4, .mv (.t 25), none⟩,
  ⟨some 5, .mv (.c (.int .i64 0)), none⟩])
 (.ret))))),
 [.tmp 4, .tmp 5], true⟩
/-- ephemeris/ephemerisref03.Unsigned -/
def M51 : MFunc := ⟨.seq (.reg [⟨some 4, .mv (.c (.int .u64 0)), none⟩,
  ⟨some 5, .mv (.c (.int .i64 0)), none⟩])
 (.seq (.seq (.reg [⟨some 10, .mv (.t 1), none⟩,
  ⟨some 11, .call 74 [(.t 10)], none⟩,
  ⟨some 12, .un .not (.t 11), none⟩])
 (.cond (.t 12)
 (.seq (.reg [⟨some 4, .mv (.c (.int .u64 0)), none⟩,
  ⟨some 5, .mv (.c (.int .i64 1)), none⟩])
 (.ret))
 (.skip)))
 (.seq (.reg [⟨some 13, .mv (.t 0), none⟩,
  ⟨some 6, .mv (.t 13), none⟩])
 (.seq (.seq (.reg [⟨some 14, .mv (.t 0), none⟩,
  ⟨some 15, .bin .lss [] (.t 14) (.c (.int .i64 0)), none⟩])
 (.cond (.t 15)
 (.reg [⟨some 16, .mv (.t 0), none⟩,
  ⟨some 17, .bin .add [] (.t 16) (.c (.int .i64 1)), none⟩,
  ⟨some 18, .un .neg (.t 17), none⟩,
  ⟨some 6, .mv (.t 18), none⟩])
 (.skip)))
 (.seq (.reg [⟨some 20, .mv (.t 6), none⟩,
  ⟨some 21, .ci .u64 (.t 20), none⟩,
  ⟨some 22, .mv (.t 1), none⟩,
  ⟨some 23, .call 66 [(.t 21), (.t 22)], none⟩,
  ⟨some 19, .mv (.t 23), none⟩,
  ⟨some 24, .ex 0 (.t 19), none⟩,
  ⟨some 25, .ex 1 (.t 19), none⟩,
  ⟨some 7, .mv (.t 24), none⟩,
  ⟨some 8, .mv (.t 25), none⟩])
 (.seq (.seq (.reg [⟨some 26, .mv (.t 8), none⟩,
  ⟨some 27, .un .not (.t 26), none⟩,
  ⟨some 28, .mv (.t 27), none⟩,
  ⟨some 29, .mv (.t 7), some (28, false)⟩,
  ⟨some 30, .ia none 1 (.t 29) (.c (.int .i64 0)), some (28, false)⟩,
  ⟨some 31, .ld none (.t 30), some (28, false)⟩,
  ⟨some 32, .bin .geq [] (.t 31) (.c (.int .u8 128)), some (28, false)⟩,
  ⟨some 33, .pick (.t 28) (.c (.bool true)) (.t 32), none⟩])
 (.cond (.t 33)
 (.seq (.reg [⟨some 4, .mv (.c (.int .u64 0)), none⟩,
  ⟨some 5, .mv (.c (.int .i64 20)), none⟩])
 (.ret))
 (.skip)))
 (.seq (.seq (.reg [⟨some 34, .mv (.t 0), none⟩,
  ⟨some 35, .bin .geq [] (.t 34) (.c (.int .i64 0)), none⟩])
 (.cond (.t 35)
 (.seq (.reg [⟨some 36, .mv (.t 0), none⟩,
  ⟨some 37, .ci .u64 (.t 36), none⟩,
  ⟨some 4, .mv (.t 37), none⟩,
  ⟨some 5, .mv (.c (.int .i64 0)), none⟩])
 (.ret))
 (.skip)))
 (.seq (.seq (.reg [⟨some 9, .mv (.c (.int .i64 0)), none⟩])
 (.block 0 [7]
 (.loop [7, 9]
 (.seq (.seq (.reg [⟨some 38, .mv (.t 9), none⟩,
  ⟨some 39, .mv (.t 7), none⟩,
  ⟨some 40, .len none (.t 39), none⟩,
  ⟨some 41, .bin .lss [] (.t 38) (.t 40), none⟩])
 (.cond (.t 41)
 (.skip)
 (.exit 0)))
 (.seq (.block 1 [7, 9]
 (.reg [⟨some 44, .mv (.t 7), none⟩,
  ⟨some 45, .mv (.t 9), none⟩,
  ⟨some 46, .mv (.t 7), none⟩,
  ⟨some 47, .mv (.t 9), none⟩,
  ⟨some 48, .ia none 1 (.t 46) (.t 47), none⟩,
  ⟨some 49, .ld none (.t 48), none⟩,
  ⟨some 50, .bin .sub [] (.c (.int .u8 255)) (.t 49), none⟩,
  ⟨some 51, .ia none 1 (.t 44) (.t 45), none⟩,
  ⟨none, .st 1 (.t 51) (.t 50), none⟩]))
 (.reg [⟨some 42, .mv (.t 9), none⟩,
  ⟨some 43, .bin .add [] (.t 42) (.c (.int .i64 1)), none⟩,
  ⟨some 9, .mv (.t 43), none⟩]))))))
 (.seq (.reg [⟨some 52, .mv (.t 7), none⟩,
  ⟨some 53, .call 70 [(.t 52)], none⟩,
  ⟨some 4, .mv (.t 53), none⟩,
  ⟨some 5, .mv (.c (.int .i64 0)), none⟩])
 (.ret))))))))),
 [.tmp 4, .tmp 5], true⟩
/-- ephemeris/ephemerislaw03.cells -/
def M52 : MFunc := ⟨.seq (.reg [⟨some 2, .mv (.c .nils), none⟩,
  ⟨some 3, .mv (.c .nils), none⟩])
 (.seq (.reg [⟨some 4, .mv (.c .nils), none⟩])
 (.seq (.reg [⟨some 5, .mv (.c .nils), none⟩])
 (.seq (.seq (.reg [⟨some 9, .mv (.t 0), none⟩,
  ⟨some 10, .len none (.t 9), none⟩,
  ⟨some 11, .mv (.c (.int .i64 0)), none⟩])
 (.block 0 [4, 5]
 (.loop [4, 5, 9, 10, 11]
 (.seq (.reg [⟨some 12, .bin .lss [] (.t 11) (.t 10), none⟩])
 (.seq (.cond (.t 12)
 (.skip)
 (.exit 0))
 (.seq (.block 1 [4, 5, 9, 10, 11]
 (.seq (.reg [⟨some 13, .mv (.t 11), none⟩,
  ⟨some 14, .ia none 2 (.t 9) (.t 11), none⟩,
  ⟨some 15, .ld (some 2) (.t 14), none⟩,
  ⟨some 7, .al (.vals [(.int .u8 0), (.int .u64 0)]), none⟩,
  ⟨some 6, .mv (.t 13), none⟩,
  ⟨none, .st 2 (.t 7) (.t 15), none⟩])
 (.seq (.seq (.reg [⟨some 16, .mv (.t 6), none⟩,
  ⟨some 17, .bin .eql [] (.t 16) (.c (.int .i64 30)), none⟩])
 (.cond (.t 17)
 (.exit 0)
 (.skip)))
 (.seq (.reg [⟨some 18, .fa 0 (.t 7), none⟩,
  ⟨some 19, .ld none (.t 18), none⟩,
  ⟨some 20, .bin .rem [] (.t 19) (.c (.int .u8 8)), none⟩,
  ⟨some 21, .ci .i64 (.t 20), none⟩,
  ⟨some 22, .bin .add [] (.c (.int .i64 1)) (.t 21), none⟩,
  ⟨some 8, .mv (.t 22), none⟩])
 (.seq (.reg [⟨some 23, .mv (.t 4), none⟩,
  ⟨some 24, .mv (.t 8), none⟩,
  ⟨some 25, .bsl (.ints .i64 [0]) 1 1 [(0, 1, (.t 24))], none⟩,
  ⟨some 26, .app (.ints .i64 [0]) 8 (.t 23) (.t 25), none⟩,
  ⟨some 4, .mv (.t 26), none⟩])
 (.reg [⟨some 27, .mv (.t 5), none⟩,
  ⟨some 28, .fa 1 (.t 7), none⟩,
  ⟨some 29, .ld none (.t 28), none⟩,
  ⟨some 30, .mv (.t 8), none⟩,
  ⟨some 31, .bin .mul [] (.c (.int .i64 8)) (.t 30), none⟩,
  ⟨some 32, .bin .sub [] (.c (.int .i64 64)) (.t 31), none⟩,
  ⟨some 33, .bin .shr [] (.t 29) (.t 32), none⟩,
  ⟨some 34, .bsl (.ints .u64 [0]) 1 1 [(0, 1, (.t 33))], none⟩,
  ⟨some 35, .app (.ints .u64 [0]) 8 (.t 27) (.t 34), none⟩,
  ⟨some 5, .mv (.t 35), none⟩]))))))
 (.reg [⟨some 36, .bin .add [] (.t 11) (.c (.int .i64 1)), none⟩,
  ⟨some 11, .mv (.t 36), none⟩])))))))
 (.seq (.reg [⟨some 37, .mv (.t 4), none⟩,
  ⟨some 38, .mv (.t 5), none⟩,
  ⟨some 2, .mv (.t 37), none⟩,
  ⟨some 3, .mv (.t 38), none⟩])
 (.ret))))),
 [.tmp 2, .tmp 3], true⟩
/-- slices.Clone[[]uint64,uint64] -/
def M53 : MFunc := ⟨.seq (.reg [⟨some 2, .mv (.c .nils), none⟩])
 (.seq (.seq (.reg [⟨some 3, .mv (.t 0), none⟩,
  ⟨some 4, .bin .eql [3] (.t 3) (.c .nils), none⟩])
 (.cond (.t 4)
 (.seq (.reg [⟨some 2, .mv (.c .nils), none⟩])
 (.ret))
 (.skip)))
 (.seq (.reg [⟨some 5, .bsl (.ints .u64 [0]) 0 1 [], none⟩,
  ⟨some 6, .mv (.t 0), none⟩,
  ⟨some 7, .app (.ints .u64 [0]) 8 (.t 5) (.t 6), none⟩,
  ⟨some 2, .mv (.t 7), none⟩])
 (.ret))),
 [.tmp 2], true⟩
/-- bytes.Compare -/
def M54 : MFunc := ⟨.seq (.reg [⟨some 4, .mv (.c (.int .i64 0)), none⟩])
 (.seq (.reg [⟨some 5, .mv (.t 0), none⟩,
  ⟨some 6, .mv (.t 1), none⟩,
  ⟨some 7, .call 76 [(.t 5), (.t 6)], none⟩,
  ⟨some 4, .mv (.t 7), none⟩])
 (.ret)),
 [.tmp 4], true⟩
/-- bytes.Clone -/
def M55 : MFunc := ⟨.seq (.reg [⟨some 2, .mv (.c .nils), none⟩])
 (.seq (.seq (.reg [⟨some 3, .mv (.t 0), none⟩,
  ⟨some 4, .bin .eql [3] (.t 3) (.c .nils), none⟩])
 (.cond (.t 4)
 (.seq (.reg [⟨some 2, .mv (.c .nils), none⟩])
 (.ret))
 (.skip)))
 (.seq (.reg [⟨some 5, .bsl (.ints .u8 [0]) 0 1 [], none⟩,
  ⟨some 6, .mv (.t 0), none⟩,
  ⟨some 7, .app (.ints .u8 [0]) 1 (.t 5) (.t 6), none⟩,
  ⟨some 2, .mv (.t 7), none⟩])
 (.ret))),
 [.tmp 2], true⟩
/-- (*ephemeris/poll.Poll).asks -/
def M56 : MFunc := ⟨.seq (.reg [⟨some 4, .mv (.c (.int .i64 0)), none⟩])
 (.seq (.seq (.reg [⟨some 7, .mv (.t 0), none⟩,
  ⟨some 8, .call 57 [(.t 7)], none⟩])
 (.cond (.t 8)
 (.seq (.reg [⟨some 4, .mv (.c (.int .i64 2)), none⟩])
 (.ret))
 (.skip)))
 (.seq (.seq (.reg [⟨some 9, .mv (.t 1), none⟩,
  ⟨some 10, .len none (.t 9), none⟩,
  ⟨some 11, .mv (.c (.int .i64 0)), none⟩])
 (.block 0 [0]
 (.loop [0, 9, 10, 11]
 (.seq (.reg [⟨some 12, .bin .lss [] (.t 11) (.t 10), none⟩])
 (.seq (.cond (.t 12)
 (.skip)
 (.exit 0))
 (.seq (.block 1 [0, 9, 10, 11]
 (.seq (.reg [⟨some 13, .ia none 1 (.t 9) (.t 11), none⟩,
  ⟨some 14, .ld none (.t 13), none⟩,
  ⟨some 6, .mv (.t 14), none⟩])
 (.seq (.reg [⟨some 15, .mv (.t 6), none⟩,
  ⟨some 16, .calld (.t 15) [], none⟩])
 (.cond (.t 16)
 (.seq (.reg [⟨some 4, .mv (.c (.int .i64 1)), none⟩])
 (.ret))
 (.skip)))))
 (.reg [⟨some 17, .bin .add [] (.t 11) (.c (.int .i64 1)), none⟩,
  ⟨some 11, .mv (.t 17), none⟩])))))))
 (.seq (.seq (.reg [⟨some 18, .mv (.t 0), none⟩,
  ⟨some 19, .nc (.t 18), none⟩,
  ⟨some 20, .fa 8 (.t 19), none⟩,
  ⟨some 21, .ld none (.t 20), none⟩])
 (.cond (.t 21)
 (.seq (.reg [⟨some 4, .mv (.c (.int .i64 35)), none⟩])
 (.ret))
 (.skip)))
 (.seq (.reg [⟨some 4, .mv (.c (.int .i64 0)), none⟩])
 (.ret))))),
 [.tmp 4], true⟩
/-- (*ephemeris/poll.Poll).none -/
def M57 : MFunc := ⟨.seq (.reg [⟨some 2, .mv (.c (.bool false)), none⟩])
 (.seq (.reg [⟨some 3, .mv (.t 0), none⟩,
  ⟨some 4, .bin .eql [2] (.t 3) (.c .nilp), none⟩,
  ⟨some 5, .mv (.t 4), none⟩,
  ⟨some 6, .mv (.t 0), some (5, false)⟩,
  ⟨some 7, .nc (.t 6), some (5, false)⟩,
  ⟨some 8, .fa 9 (.t 7), some (5, false)⟩,
  ⟨some 9, .ld none (.t 8), some (5, false)⟩,
  ⟨some 10, .un .not (.t 9), some (5, false)⟩,
  ⟨some 11, .pick (.t 5) (.c (.bool true)) (.t 10), none⟩,
  ⟨some 2, .mv (.t 11), none⟩])
 (.ret)),
 [.tmp 2], true⟩
/-- (*ephemeris/poll.Poll).Sent_1 -/
def M58 : MFunc := ⟨.seq (.reg [⟨some 1, .mv (.c (.bool false)), none⟩])
 (.seq (.reg [⟨some 2, .ld none (.t 0), none⟩,
  ⟨some 3, .bin .lss [] (.t 2) (.c (.int .i64 0)), none⟩,
  ⟨some 4, .mv (.t 3), none⟩,
  ⟨some 5, .ld none (.t 0), some (4, false)⟩,
  ⟨some 6, .bin .gtr [] (.t 5) (.c (.int .i64 4611686018427387904)), some (4, false)⟩,
  ⟨some 7, .pick (.t 4) (.c (.bool true)) (.t 6), none⟩,
  ⟨some 1, .mv (.t 7), none⟩])
 (.ret)),
 [.tmp 1], true⟩
/-- (*ephemeris/poll.Poll).pause -/
def M59 : MFunc := ⟨.seq (.reg [⟨some 2, .mv (.c (.int .i64 0)), none⟩])
 (.seq (.reg [⟨some 3, .mv (.t 0), none⟩,
  ⟨some 4, .nc (.t 3), none⟩,
  ⟨some 5, .fa 0 (.t 4), none⟩,
  ⟨some 6, .ld none (.t 5), none⟩,
  ⟨some 7, .bin .shl [] (.c (.int .i64 1000000000)) (.t 6), none⟩,
  ⟨some 2, .mv (.t 7), none⟩])
 (.ret)),
 [.tmp 2], true⟩
/-- (*ephemeris/poll.Poll).Rate_1 -/
def M60 : MFunc := ⟨.seq (.reg [⟨some 1, .mv (.c (.bool false)), none⟩])
 (.seq (.reg [⟨some 2, .ld none (.t 0), none⟩,
  ⟨some 3, .bin .lss [] (.t 2) (.c (.int .i64 4)), none⟩,
  ⟨some 4, .mv (.t 3), none⟩,
  ⟨some 5, .ld none (.t 0), some (4, false)⟩,
  ⟨some 6, .bin .gtr [] (.t 5) (.c (.int .i64 10)), some (4, false)⟩,
  ⟨some 7, .pick (.t 4) (.c (.bool true)) (.t 6), none⟩,
  ⟨some 1, .mv (.t 7), none⟩])
 (.ret)),
 [.tmp 1], true⟩
/-- ephemeris/ephemerisref17.seconds -/
def M61 : MFunc := ⟨.seq (.reg [⟨some 2, .mv (.c (.int .i64 0)), none⟩])
 (.seq (.reg [⟨some 3, .mv (.c (.int .i64 1000000000)), none⟩])
 (.seq (.seq (.reg [⟨some 4, .mv (.c (.int .i64 0)), none⟩])
 (.block 0 [3]
 (.loop [0, 3, 4]
 (.seq (.seq (.reg [⟨some 5, .mv (.t 4), none⟩,
  ⟨some 6, .mv (.t 0), none⟩,
  ⟨some 7, .bin .lss [] (.t 5) (.t 6), none⟩])
 (.cond (.t 7)
 (.skip)
 (.exit 0)))
 (.seq (.block 1 [0, 3, 4]
 (.reg [⟨some 10, .mv (.t 3), none⟩,
  ⟨some 11, .bin .mul [] (.t 10) (.c (.int .i64 2)), none⟩,
  ⟨some 3, .mv (.t 11), none⟩]))
 (.reg [⟨some 8, .mv (.t 4), none⟩,
  ⟨some 9, .bin .add [] (.t 8) (.c (.int .i64 1)), none⟩,
  ⟨some 4, .mv (.t 9), none⟩]))))))
 (.seq (.reg [⟨some 12, .mv (.t 3), none⟩,
  ⟨some 2, .mv (.t 12), none⟩])
 (.ret)))),
 [.tmp 2], true⟩
/-- ephemeris/octet.cut -/
def M62 : MFunc := ⟨.seq (.reg [⟨some 8, .mv (.t 0), none⟩,
  ⟨some 9, .len none (.t 8), none⟩,
  ⟨some 10, .mv (.c (.int .i64 0)), none⟩])
 (.block 0 []
 (.loop [1, 2, 8, 9, 10]
 (.seq (.reg [⟨some 11, .bin .lss [] (.t 10) (.t 9), none⟩])
 (.seq (.cond (.t 11)
 (.skip)
 (.exit 0))
 (.seq (.block 1 [1, 2, 8, 9, 10]
 (.seq (.reg [⟨some 12, .mv (.t 10), none⟩,
  ⟨some 13, .ia none 1 (.t 8) (.t 10), none⟩,
  ⟨some 14, .ld none (.t 13), none⟩,
  ⟨some 6, .mv (.t 12), none⟩,
  ⟨some 7, .mv (.t 14), none⟩])
 (.seq (.seq (.reg [⟨some 15, .mv (.t 2), none⟩,
  ⟨some 16, .mv (.t 6), none⟩,
  ⟨some 17, .mv (.t 1), none⟩,
  ⟨some 18, .mv (.t 7), none⟩,
  ⟨some 19, .mv (.t 7), none⟩,
  ⟨some 20, .slc none 1 (.t 17) none (some (.t 18)) (some (.t 19)), none⟩,
  ⟨some 21, .calld (.t 15) [(.t 16), (.t 20)], none⟩,
  ⟨some 22, .un .not (.t 21), none⟩])
 (.cond (.t 22)
 (.ret)
 (.skip)))
 (.reg [⟨some 23, .mv (.t 1), none⟩,
  ⟨some 24, .mv (.t 7), none⟩,
  ⟨some 25, .slc none 1 (.t 23) (some (.t 24)) none none, none⟩,
  ⟨some 1, .mv (.t 25), none⟩]))))
 (.reg [⟨some 26, .bin .add [] (.t 10) (.c (.int .i64 1)), none⟩,
  ⟨some 10, .mv (.t 26), none⟩])))))),
 [], true⟩
/-- ephemeris/octet.Lay_1 -/
def M63 : MFunc := ⟨.seq (.reg [⟨some 6, .mv (.c (.bool false)), none⟩])
 (.seq (.seq (.reg [⟨some 7, .ld none (.t 2), none⟩,
  ⟨some 8, .mv (.t 0), none⟩,
  ⟨some 9, .ia none 1 (.t 7) (.t 8), none⟩,
  ⟨some 10, .ld none (.t 9), none⟩,
  ⟨some 11, .mv (.t 1), none⟩,
  ⟨some 12, .len none (.t 11), none⟩,
  ⟨some 13, .call 64 [(.t 10), (.t 12)], none⟩,
  ⟨some 14, .un .not (.t 13), none⟩])
 (.cond (.t 14)
 (.seq (.reg [⟨none, .st 1 (.t 3) (.c (.int .i64 20)), none⟩])
 (.seq (.reg [⟨some 6, .mv (.c (.bool false)), none⟩])
 (.ret)))
 (.skip)))
 (.seq (.reg [⟨some 15, .mv (.t 1), none⟩,
  ⟨some 16, .ld none (.t 2), none⟩,
  ⟨some 17, .mv (.t 0), none⟩,
  ⟨some 18, .ia none 1 (.t 16) (.t 17), none⟩,
  ⟨some 19, .ld none (.t 18), none⟩,
  ⟨some 20, .call 65 [(.t 15), (.t 19)], none⟩])
 (.seq (.reg [⟨some 6, .mv (.c (.bool true)), none⟩])
 (.ret)))),
 [.tmp 6], true⟩
/-- ephemeris/octet.fits -/
def M64 : MFunc := ⟨.seq (.reg [⟨some 4, .mv (.c (.bool false)), none⟩])
 (.seq (.reg [⟨some 5, .mv (.t 1), none⟩,
  ⟨some 6, .bin .eql [] (.t 5) (.c (.int .i64 8)), none⟩,
  ⟨some 7, .mv (.t 6), none⟩,
  ⟨some 8, .mv (.t 0), some (7, false)⟩,
  ⟨some 9, .mv (.t 1), some (7, false)⟩,
  ⟨some 10, .bin .mul [] (.c (.int .i64 8)) (.t 9), some (7, false)⟩,
  ⟨some 11, .bin .shr [] (.t 8) (.t 10), some (7, false)⟩,
  ⟨some 12, .bin .eql [] (.t 11) (.c (.int .u64 0)), some (7, false)⟩,
  ⟨some 13, .pick (.t 7) (.c (.bool true)) (.t 12), none⟩,
  ⟨some 4, .mv (.t 13), none⟩])
 (.ret)),
 [.tmp 4], true⟩
/-- ephemeris/ephemerisref03.Digits -/
def M66 : MFunc := ⟨.seq (.reg [⟨some 4, .mv (.c .nils), none⟩,
  ⟨some 5, .mv (.c (.bool false)), none⟩])
 (.seq (.reg [⟨some 8, .mv (.t 1), none⟩,
  ⟨some 9, .mks (.ints .u8 [0]) 1 (.t 8) (.t 8), none⟩,
  ⟨some 6, .mv (.t 9), none⟩])
 (.seq (.seq (.reg [⟨some 10, .mv (.t 1), none⟩,
  ⟨some 11, .bin .sub [] (.t 10) (.c (.int .i64 1)), none⟩,
  ⟨some 7, .mv (.t 11), none⟩])
 (.block 0 [0, 6]
 (.loop [0, 6, 7]
 (.seq (.seq (.reg [⟨some 12, .mv (.t 7), none⟩,
  ⟨some 13, .bin .geq [] (.t 12) (.c (.int .i64 0)), none⟩])
 (.cond (.t 13)
 (.skip)
 (.exit 0)))
 (.seq (.block 1 [0, 6, 7]
 (.seq (.reg [⟨some 16, .mv (.t 6), none⟩,
  ⟨some 17, .mv (.t 7), none⟩,
  ⟨some 18, .mv (.t 0), none⟩,
  ⟨some 19, .bin .rem [] (.t 18) (.c (.int .u64 256)), none⟩,
  ⟨some 20, .ci .u8 (.t 19), none⟩,
  ⟨some 21, .ia none 1 (.t 16) (.t 17), none⟩,
  ⟨none, .st 1 (.t 21) (.t 20), none⟩])
 (.reg [⟨some 22, .mv (.t 0), none⟩,
  ⟨some 23, .bin .quo [] (.t 22) (.c (.int .u64 256)), none⟩,
  ⟨some 0, .mv (.t 23), none⟩])))
 (.reg [⟨some 14, .mv (.t 7), none⟩,
  ⟨some 15, .bin .sub [] (.t 14) (.c (.int .i64 1)), none⟩,
  ⟨some 7, .mv (.t 15), none⟩]))))))
 (.seq (.reg [⟨some 24, .mv (.t 6), none⟩,
  ⟨some 25, .mv (.t 0), none⟩,
  ⟨some 26, .bin .eql [] (.t 25) (.c (.int .u64 0)), none⟩,
  ⟨some 4, .mv (.t 24), none⟩,
  ⟨some 5, .mv (.t 26), none⟩])
 (.ret)))),
 [.tmp 4, .tmp 5], true⟩
/-- ephemeris/octet.Take_1 -/
def M67 : MFunc := ⟨.seq (.reg [⟨some 5, .mv (.c (.bool false)), none⟩])
 (.seq (.regd [(0, ⟨some 6, .ld none (.t 2), none⟩),
  (1, ⟨some 7, .mv (.t 1), none⟩),
  (2, ⟨some 8, .call 68 [(.t 7)], none⟩),
  (3, ⟨some 9, .bsl (.ints .u64 [0]) 1 1 [(0, 1, (.t 8))], none⟩),
  (4, ⟨some 10, .app (.ints .u64 [0]) 8 (.t 6) (.t 9), none⟩),
  (5, ⟨none, .st 1 (.t 2) (.t 10), none⟩)] [(0, 2)])
 (.seq (.reg [⟨some 5, .mv (.c (.bool true)), none⟩])
 (.ret))),
 [.tmp 5], true⟩
/-- slices.Clone[[]byte,byte] -/
def M69 : MFunc := ⟨.seq (.reg [⟨some 2, .mv (.c .nils), none⟩])
 (.seq (.seq (.reg [⟨some 3, .mv (.t 0), none⟩,
  ⟨some 4, .bin .eql [3] (.t 3) (.c .nils), none⟩])
 (.cond (.t 4)
 (.seq (.reg [⟨some 2, .mv (.c .nils), none⟩])
 (.ret))
 (.skip)))
 (.seq (.reg [⟨some 5, .bsl (.ints .u8 [0]) 0 1 [], none⟩,
  ⟨some 6, .mv (.t 0), none⟩,
  ⟨some 7, .app (.ints .u8 [0]) 1 (.t 5) (.t 6), none⟩,
  ⟨some 2, .mv (.t 7), none⟩])
 (.ret))),
 [.tmp 2], true⟩
/-- ephemeris/ephemerisref03.Number -/
def M70 : MFunc := ⟨.seq (.reg [⟨some 2, .mv (.c (.int .u64 0)), none⟩])
 (.seq (.reg [⟨some 3, .mv (.c (.int .u64 0)), none⟩])
 (.seq (.seq (.reg [⟨some 4, .mv (.c (.int .i64 0)), none⟩])
 (.block 0 [3]
 (.loop [0, 3, 4]
 (.seq (.seq (.reg [⟨some 5, .mv (.t 4), none⟩,
  ⟨some 6, .mv (.t 0), none⟩,
  ⟨some 7, .len none (.t 6), none⟩,
  ⟨some 8, .bin .lss [] (.t 5) (.t 7), none⟩])
 (.cond (.t 8)
 (.skip)
 (.exit 0)))
 (.seq (.block 1 [0, 3, 4]
 (.reg [⟨some 11, .mv (.t 3), none⟩,
  ⟨some 12, .bin .mul [] (.t 11) (.c (.int .u64 256)), none⟩,
  ⟨some 13, .mv (.t 0), none⟩,
  ⟨some 14, .mv (.t 4), none⟩,
  ⟨some 15, .ia none 1 (.t 13) (.t 14), none⟩,
  ⟨some 16, .ld none (.t 15), none⟩,
  ⟨some 17, .ci .u64 (.t 16), none⟩,
  ⟨some 18, .bin .add [] (.t 12) (.t 17), none⟩,
  ⟨some 3, .mv (.t 18), none⟩]))
 (.reg [⟨some 9, .mv (.t 4), none⟩,
  ⟨some 10, .bin .add [] (.t 9) (.c (.int .i64 1)), none⟩,
  ⟨some 4, .mv (.t 10), none⟩]))))))
 (.seq (.reg [⟨some 19, .mv (.t 3), none⟩,
  ⟨some 2, .mv (.t 19), none⟩])
 (.ret)))),
 [.tmp 2], true⟩
/-- slices.ContainsFunc[[]int,int] -/
def M71 : MFunc := ⟨.seq (.reg [⟨some 4, .mv (.c (.bool false)), none⟩])
 (.seq (.reg [⟨some 5, .mv (.t 0), none⟩,
  ⟨some 6, .mv (.t 1), none⟩,
  ⟨some 7, .call 78 [(.t 5), (.t 6)], none⟩,
  ⟨some 8, .bin .geq [] (.t 7) (.c (.int .i64 0)), none⟩,
  ⟨some 4, .mv (.t 8), none⟩])
 (.ret)),
 [.tmp 4], true⟩
/-- ephemeris/octet.Width_1 -/
def M72 : MFunc := ⟨.seq (.reg [⟨some 2, .mv (.c (.bool false)), none⟩])
 (.seq (.reg [⟨some 3, .mv (.t 0), none⟩,
  ⟨some 4, .call 73 [(.t 3)], none⟩,
  ⟨some 5, .un .not (.t 4), none⟩,
  ⟨some 2, .mv (.t 5), none⟩])
 (.ret)),
 [.tmp 2], true⟩
/-- ephemeris/octet.sized -/
def M73 : MFunc := ⟨.seq (.reg [⟨some 2, .mv (.c (.bool false)), none⟩])
 (.seq (.reg [⟨some 3, .mv (.t 0), none⟩,
  ⟨some 4, .bin .gtr [] (.t 3) (.c (.int .i64 0)), none⟩,
  ⟨some 5, .mv (.t 4), none⟩,
  ⟨some 6, .mv (.t 0), some (5, true)⟩,
  ⟨some 7, .bin .leq [] (.t 6) (.c (.int .i64 8)), some (5, true)⟩,
  ⟨some 8, .pick (.t 5) (.t 7) (.c (.bool false)), none⟩,
  ⟨some 2, .mv (.t 8), none⟩])
 (.ret)),
 [.tmp 2], true⟩
/-- ephemeris/ephemerisref03.Size -/
def M74 : MFunc := ⟨.seq (.reg [⟨some 2, .mv (.c (.bool false)), none⟩])
 (.seq (.reg [⟨some 3, .mv (.t 0), none⟩,
  ⟨some 4, .bin .eql [] (.t 3) (.c (.int .i64 1)), none⟩,
  ⟨some 5, .mv (.t 4), none⟩,
  ⟨some 6, .mv (.t 0), some (5, false)⟩,
  ⟨some 7, .bin .eql [] (.t 6) (.c (.int .i64 2)), some (5, false)⟩,
  ⟨some 8, .pick (.t 5) (.c (.bool true)) (.t 7), none⟩,
  ⟨some 9, .mv (.t 8), none⟩,
  ⟨some 10, .mv (.t 0), some (9, false)⟩,
  ⟨some 11, .bin .eql [] (.t 10) (.c (.int .i64 3)), some (9, false)⟩,
  ⟨some 12, .pick (.t 9) (.c (.bool true)) (.t 11), none⟩,
  ⟨some 13, .mv (.t 12), none⟩,
  ⟨some 14, .mv (.t 0), some (13, false)⟩,
  ⟨some 15, .bin .eql [] (.t 14) (.c (.int .i64 4)), some (13, false)⟩,
  ⟨some 16, .pick (.t 13) (.c (.bool true)) (.t 15), none⟩,
  ⟨some 17, .mv (.t 16), none⟩,
  ⟨some 18, .mv (.t 0), some (17, false)⟩,
  ⟨some 19, .bin .eql [] (.t 18) (.c (.int .i64 5)), some (17, false)⟩,
  ⟨some 20, .pick (.t 17) (.c (.bool true)) (.t 19), none⟩,
  ⟨some 21, .mv (.t 20), none⟩,
  ⟨some 22, .mv (.t 0), some (21, false)⟩,
  ⟨some 23, .bin .eql [] (.t 22) (.c (.int .i64 6)), some (21, false)⟩,
  ⟨some 24, .pick (.t 21) (.c (.bool true)) (.t 23), none⟩,
  ⟨some 25, .mv (.t 24), none⟩,
  ⟨some 26, .mv (.t 0), some (25, false)⟩,
  ⟨some 27, .bin .eql [] (.t 26) (.c (.int .i64 7)), some (25, false)⟩,
  ⟨some 28, .pick (.t 25) (.c (.bool true)) (.t 27), none⟩,
  ⟨some 29, .mv (.t 28), none⟩,
  ⟨some 30, .mv (.t 0), some (29, false)⟩,
  ⟨some 31, .bin .eql [] (.t 30) (.c (.int .i64 8)), some (29, false)⟩,
  ⟨some 32, .pick (.t 29) (.c (.bool true)) (.t 31), none⟩,
  ⟨some 2, .mv (.t 32), none⟩])
 (.ret)),
 [.tmp 2], true⟩
/-- ephemeris/octet.within -/
def M75 : MFunc := ⟨.seq (.reg [⟨some 6, .mv (.c (.bool false)), none⟩])
 (.seq (.reg [⟨some 7, .mv (.t 1), none⟩,
  ⟨some 8, .bin .geq [] (.t 7) (.c (.int .i64 0)), none⟩,
  ⟨some 9, .mv (.t 8), none⟩,
  ⟨some 10, .mv (.t 1), some (9, true)⟩,
  ⟨some 11, .mv (.t 0), some (9, true)⟩,
  ⟨some 12, .len none (.t 11), some (9, true)⟩,
  ⟨some 13, .bin .leq [] (.t 10) (.t 12), some (9, true)⟩,
  ⟨some 14, .pick (.t 9) (.t 13) (.c (.bool false)), none⟩,
  ⟨some 15, .mv (.t 14), none⟩,
  ⟨some 16, .mv (.t 2), some (15, true)⟩,
  ⟨some 17, .mv (.t 0), some (15, true)⟩,
  ⟨some 18, .len none (.t 17), some (15, true)⟩,
  ⟨some 19, .mv (.t 1), some (15, true)⟩,
  ⟨some 20, .bin .sub [] (.t 18) (.t 19), some (15, true)⟩,
  ⟨some 21, .bin .leq [] (.t 16) (.t 20), some (15, true)⟩,
  ⟨some 22, .pick (.t 15) (.t 21) (.c (.bool false)), none⟩,
  ⟨some 6, .mv (.t 22), none⟩])
 (.ret)),
 [.tmp 6], true⟩
/-- ephemeris/octet.digits -/
def M77 : MFunc := ⟨.seq (.reg [⟨some 1, .bx (some .i64) 1 (.t 0), none⟩,
  ⟨some 2, .mv (.c .nilf), none⟩])
 (.seq (.reg [⟨some 3, .mf 79 [(.t 1)], none⟩,
  ⟨some 2, .mv (.t 3), none⟩])
 (.ret)),
 [.tmp 2], true⟩
/-- slices.IndexFunc[[]int,int] -/
def M78 : MFunc := ⟨.seq (.reg [⟨some 4, .mv (.c (.int .i64 0)), none⟩])
 (.seq (.seq (.reg [⟨some 6, .mv (.t 0), none⟩,
  ⟨some 7, .len none (.t 6), none⟩,
  ⟨some 8, .mv (.c (.int .i64 0)), none⟩])
 (.block 0 []
 (.loop [0, 1, 7, 8]
 (.seq (.reg [⟨some 9, .bin .lss [] (.t 8) (.t 7), none⟩])
 (.seq (.cond (.t 9)
 (.skip)
 (.exit 0))
 (.seq (.block 1 [0, 1, 7, 8]
 (.seq (.reg [⟨some 10, .mv (.t 8), none⟩,
  ⟨some 5, .mv (.t 10), none⟩])
 (.seq (.reg [⟨some 11, .mv (.t 1), none⟩,
  ⟨some 12, .mv (.t 0), none⟩,
  ⟨some 13, .mv (.t 5), none⟩,
  ⟨some 14, .ia none 1 (.t 12) (.t 13), none⟩,
  ⟨some 15, .ld none (.t 14), none⟩,
  ⟨some 16, .calld (.t 11) [(.t 15)], none⟩])
 (.cond (.t 16)
 (.seq (.reg [⟨some 17, .mv (.t 5), none⟩,
  ⟨some 4, .mv (.t 17), none⟩])
 (.ret))
 (.skip)))))
 (.reg [⟨some 18, .bin .add [] (.t 8) (.c (.int .i64 1)), none⟩,
  ⟨some 8, .mv (.t 18), none⟩])))))))
 (.seq (.reg [⟨some 4, .mv (.c (.int .i64 (-1))), none⟩])
 (.ret))),
 [.tmp 4], true⟩
/-- ephemeris/octet.digits_1 -/
def M79 : MFunc := ⟨.seq (.reg [⟨some 3, .mv (.c (.int .i64 0)), none⟩])
 (.block 0 []
 (.loop [0, 1, 3]
 (.seq (.seq (.reg [⟨some 4, .mv (.t 3), none⟩,
  ⟨some 5, .ld none (.t 1), none⟩,
  ⟨some 6, .bin .lss [] (.t 4) (.t 5), none⟩,
  ⟨some 7, .mv (.t 6), none⟩,
  ⟨some 8, .mv (.t 0), some (7, true)⟩,
  ⟨some 9, .mv (.t 3), some (7, true)⟩,
  ⟨some 10, .ld none (.t 1), some (7, true)⟩,
  ⟨some 11, .bin .sub [] (.t 10) (.c (.int .i64 1)), some (7, true)⟩,
  ⟨some 12, .mv (.t 3), some (7, true)⟩,
  ⟨some 13, .bin .sub [] (.t 11) (.t 12), some (7, true)⟩,
  ⟨some 14, .bin .mul [] (.c (.int .i64 8)) (.t 13), some (7, true)⟩,
  ⟨some 15, .calld (.t 8) [(.t 9), (.t 14)], some (7, true)⟩,
  ⟨some 16, .pick (.t 7) (.t 15) (.c (.bool false)), none⟩])
 (.cond (.t 16)
 (.skip)
 (.exit 0)))
 (.block 1 [0, 1, 3]
 (.reg [⟨some 17, .mv (.t 3), none⟩,
  ⟨some 18, .bin .add [] (.t 17) (.c (.int .i64 1)), none⟩,
  ⟨some 3, .mv (.t 18), none⟩]))))),
 [], true⟩
def MPL : List (Nat × MFunc) := [(2, M2), (3, M3), (4, M4), (5, M5), (6, M6), (7, M7), (8, M8), (9, M9), (10, M10), (11, M11), (12, M12), (13, M13), (14, M14), (15, M15), (16, M16), (17, M17), (18, M18), (19, M19), (20, M20), (21, M21), (22, M22), (23, M23), (24, M24), (25, M25), (26, M26), (27, M27), (28, M28), (29, M29), (30, M30), (31, M31), (32, M32), (33, M33), (34, M34), (35, M35), (36, M36), (37, M37), (38, M38), (39, M39), (40, M40), (41, M41), (42, M42), (43, M43), (44, M44), (45, M45), (46, M46), (47, M47), (48, M48), (49, M49), (50, M50), (51, M51), (52, M52), (53, M53), (54, M54), (55, M55), (56, M56), (57, M57), (58, M58), (59, M59), (60, M60), (61, M61), (62, M62), (63, M63), (64, M64), (66, M66), (67, M67), (69, M69), (70, M70), (71, M71), (72, M72), (73, M73), (74, M74), (75, M75), (77, M77), (78, M78), (79, M79)]
def MP (f : Nat) : Option MFunc := MPL.lookup f
def GL : List Nat := []
noncomputable def X : Ctx := ⟨Go.Proofs.Try.prog, 0, fun i => GL.getD i 0⟩
end Go.Proofs.YtimlhgpjmjmjhaaW.AI.B
