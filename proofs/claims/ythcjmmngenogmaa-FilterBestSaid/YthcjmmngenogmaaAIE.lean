import Derived.Test.YthcjmmngenogmaaAISem17
import Derived.Test.YthcjmmngenogmaaProg
namespace Go.Proofs.YthcjmmngenogmaaW.AI.E
open Go Go.Proofs.YthcjmmngenogmaaW.AI
/-- gosem.cut.init -/
def M2 : MFunc := ⟨.reg [⟨some 0, .call 1 [], none⟩],
 [], true⟩
/-- ephemeris/ephemerislaw30.SkyGoes -/
def M3 : MFunc := ⟨.seq (.reg [⟨some 10, .mv (.c (.bool false)), none⟩])
 (.seq (.reg [⟨some 14, .mv (.t 0), none⟩,
  ⟨some 15, .mv (.t 1), none⟩,
  ⟨some 16, .mv (.t 2), none⟩,
  ⟨some 17, .call 13 [(.t 14), (.t 15), (.t 16)], none⟩,
  ⟨some 11, .mv (.t 17), none⟩])
 (.seq (.seq (.reg [⟨some 18, .mv (.t 11), none⟩,
  ⟨some 19, .bin .eql [2] (.t 18) (.c .nilp), none⟩])
 (.cond (.t 19)
 (.seq (.reg [⟨some 10, .mv (.c (.bool false)), none⟩])
 (.ret))
 (.skip)))
 (.seq (.reg [⟨some 20, .mv (.t 3), none⟩,
  ⟨some 21, .bin .and [] (.t 20) (.c (.int .i64 4503599627370495)), none⟩,
  ⟨some 22, .mv (.t 4), none⟩,
  ⟨some 23, .bin .and [] (.t 22) (.c (.int .i64 4503599627370495)), none⟩,
  ⟨some 3, .mv (.t 21), none⟩,
  ⟨some 4, .mv (.t 23), none⟩])
 (.seq (.seq (.reg [⟨some 24, .mv (.t 3), none⟩,
  ⟨some 25, .mv (.t 4), none⟩,
  ⟨some 26, .bin .gtr [] (.t 24) (.t 25), none⟩])
 (.cond (.t 26)
 (.reg [⟨some 27, .mv (.t 4), none⟩,
  ⟨some 28, .mv (.t 3), none⟩,
  ⟨some 3, .mv (.t 27), none⟩,
  ⟨some 4, .mv (.t 28), none⟩])
 (.skip)))
 (.seq (.reg [⟨some 29, .mv (.t 11), none⟩,
  ⟨some 30, .mv (.t 3), none⟩,
  ⟨some 31, .call 14 [(.t 29), (.t 30)], none⟩,
  ⟨some 32, .mv (.t 11), none⟩,
  ⟨some 33, .mv (.t 4), none⟩,
  ⟨some 34, .call 14 [(.t 32), (.t 33)], none⟩,
  ⟨some 12, .mv (.t 31), none⟩,
  ⟨some 13, .mv (.t 34), none⟩])
 (.seq (.reg [⟨some 35, .mv (.t 12), none⟩,
  ⟨some 36, .mv (.t 13), none⟩,
  ⟨some 37, .bin .leq [] (.t 35) (.t 36), none⟩,
  ⟨some 38, .mv (.t 37), none⟩,
  ⟨some 39, .mv (.t 13), some (38, true)⟩,
  ⟨some 40, .mv (.t 12), some (38, true)⟩,
  ⟨some 41, .bin .sub [] (.t 39) (.t 40), some (38, true)⟩,
  ⟨some 42, .mv (.t 4), some (38, true)⟩,
  ⟨some 43, .mv (.t 3), some (38, true)⟩,
  ⟨some 44, .bin .sub [] (.t 42) (.t 43), some (38, true)⟩,
  ⟨some 45, .ci .u64 (.t 44), some (38, true)⟩,
  ⟨some 46, .bin .mul [] (.c (.int .u64 2)) (.t 45), some (38, true)⟩,
  ⟨some 47, .bin .leq [] (.t 41) (.t 46), some (38, true)⟩,
  ⟨some 48, .pick (.t 38) (.t 47) (.c (.bool false)), none⟩,
  ⟨some 49, .mv (.t 48), none⟩,
  ⟨some 50, .mv (.t 11), some (49, true)⟩,
  ⟨some 51, .mv (.t 3), some (49, true)⟩,
  ⟨some 52, .bin .add [] (.t 51) (.c (.int .i64 1)), some (49, true)⟩,
  ⟨some 53, .call 14 [(.t 50), (.t 52)], some (49, true)⟩,
  ⟨some 54, .mv (.t 12), some (49, true)⟩,
  ⟨some 55, .bin .sub [] (.t 53) (.t 54), some (49, true)⟩,
  ⟨some 56, .bin .leq [] (.t 55) (.c (.int .u64 2)), some (49, true)⟩,
  ⟨some 57, .pick (.t 49) (.t 56) (.c (.bool false)), none⟩,
  ⟨some 58, .mv (.t 57), none⟩,
  ⟨some 59, .mv (.t 11), some (58, true)⟩,
  ⟨some 60, .mv (.t 3), some (58, true)⟩,
  ⟨some 61, .call 15 [(.t 59), (.t 60)], some (58, true)⟩,
  ⟨some 62, .mv (.t 12), some (58, true)⟩,
  ⟨some 63, .bin .eql [] (.t 61) (.t 62), some (58, true)⟩,
  ⟨some 64, .pick (.t 58) (.t 63) (.c (.bool false)), none⟩,
  ⟨some 65, .mv (.t 64), none⟩,
  ⟨some 66, .mv (.t 11), some (65, true)⟩,
  ⟨some 67, .call 14 [(.t 66), (.c (.int .i64 0))], some (65, true)⟩,
  ⟨some 68, .bin .eql [] (.t 67) (.c (.int .u64 0)), some (65, true)⟩,
  ⟨some 69, .pick (.t 65) (.t 68) (.c (.bool false)), none⟩,
  ⟨some 70, .mv (.t 69), none⟩,
  ⟨some 71, .mv (.t 11), some (70, true)⟩,
  ⟨some 72, .call 14 [(.t 71), (.c (.int .i64 (-5)))], some (70, true)⟩,
  ⟨some 73, .bin .eql [] (.t 72) (.c (.int .u64 0)), some (70, true)⟩,
  ⟨some 74, .pick (.t 70) (.t 73) (.c (.bool false)), none⟩,
  ⟨some 75, .mv (.t 74), none⟩,
  ⟨some 76, .mv (.t 11), some (75, true)⟩,
  ⟨some 77, .mv (.t 3), some (75, true)⟩,
  ⟨some 78, .call 16 [(.t 76), (.t 77)], some (75, true)⟩,
  ⟨some 79, .mv (.t 11), some (75, true)⟩,
  ⟨some 80, .mv (.t 4), some (75, true)⟩,
  ⟨some 81, .call 16 [(.t 79), (.t 80)], some (75, true)⟩,
  ⟨some 82, .bin .leq [] (.t 78) (.t 81), some (75, true)⟩,
  ⟨some 83, .pick (.t 75) (.t 82) (.c (.bool false)), none⟩,
  ⟨some 84, .mv (.t 83), none⟩,
  ⟨some 85, .call 17 [], some (84, true)⟩,
  ⟨some 86, .pick (.t 84) (.t 85) (.c (.bool false)), none⟩,
  ⟨some 10, .mv (.t 86), none⟩])
 (.ret))))))),
 [.tmp 10], true⟩
/-- ephemeris/ephemerislaw30.SkyWhen -/
def M4 : MFunc := ⟨.seq (.reg [⟨some 10, .mv (.c (.bool false)), none⟩])
 (.seq (.reg [⟨some 18, .mv (.t 0), none⟩,
  ⟨some 19, .mv (.t 1), none⟩,
  ⟨some 20, .mv (.t 2), none⟩,
  ⟨some 21, .call 13 [(.t 18), (.t 19), (.t 20)], none⟩,
  ⟨some 11, .mv (.t 21), none⟩])
 (.seq (.seq (.reg [⟨some 22, .mv (.t 11), none⟩,
  ⟨some 23, .bin .eql [2] (.t 22) (.c .nilp), none⟩])
 (.cond (.t 23)
 (.seq (.reg [⟨some 10, .mv (.c (.bool false)), none⟩])
 (.ret))
 (.skip)))
 (.seq (.reg [⟨some 24, .mv (.t 3), none⟩,
  ⟨some 25, .bin .and [] (.t 24) (.c (.int .i64 4503599627370495)), none⟩,
  ⟨some 3, .mv (.t 25), none⟩])
 (.seq (.seq (.reg [⟨some 26, .mv (.t 4), none⟩,
  ⟨some 27, .mv (.t 11), none⟩,
  ⟨some 28, .mv (.t 3), none⟩,
  ⟨some 29, .call 14 [(.t 27), (.t 28)], none⟩,
  ⟨some 30, .mv (.t 11), none⟩,
  ⟨some 31, .mv (.t 3), none⟩,
  ⟨some 32, .call 14 [(.t 30), (.t 31)], none⟩,
  ⟨some 33, .bin .add [] (.t 32) (.c (.int .u64 1)), none⟩,
  ⟨some 34, .bld [(.int .u64 0), (.int .u64 0), (.int .u64 0)] [(0, 1, (.t 26)), (1, 1, (.t 29)), (2, 1, (.t 33))], none⟩,
  ⟨some 35, .mv (.c (.int .i64 0)), none⟩])
 (.block 0 [3, 11]
 (.loop [3, 11, 34, 35]
 (.seq (.reg [⟨some 36, .bin .lss [] (.t 35) (.c (.int .i64 3)), none⟩])
 (.seq (.cond (.t 36)
 (.skip)
 (.exit 0))
 (.seq (.block 1 [3, 11, 34, 35]
 (.seq (.reg [⟨some 37, .ixa 3 1 none (.t 34) (.t 35), none⟩,
  ⟨some 13, .mv (.t 37), none⟩])
 (.seq (.reg [⟨some 39, .mv (.t 11), none⟩,
  ⟨some 40, .mv (.t 13), none⟩,
  ⟨some 41, .call 18 [(.t 39), (.t 40)], none⟩,
  ⟨some 38, .mv (.t 41), none⟩,
  ⟨some 42, .ex 0 (.t 38), none⟩,
  ⟨some 43, .ex 1 (.t 38), none⟩,
  ⟨some 14, .mv (.t 42), none⟩,
  ⟨some 15, .mv (.t 43), none⟩])
 (.seq (.seq (.reg [⟨some 44, .mv (.t 15), none⟩,
  ⟨some 45, .mv (.t 11), none⟩,
  ⟨some 46, .call 14 [(.t 45), (.c (.int .i64 4503599627370496))], none⟩,
  ⟨some 47, .mv (.t 13), none⟩,
  ⟨some 48, .bin .geq [] (.t 46) (.t 47), none⟩,
  ⟨some 49, .bin .neq [1] (.t 44) (.t 48), none⟩,
  ⟨some 50, .mv (.t 49), none⟩,
  ⟨some 51, .mv (.t 15), some (50, false)⟩,
  ⟨some 52, .un .not (.t 51), some (50, false)⟩,
  ⟨some 53, .mv (.t 52), some (50, false)⟩,
  ⟨some 54, .mv (.t 14), some (53, true)⟩,
  ⟨some 55, .bin .neq [] (.t 54) (.c (.int .i64 0)), some (53, true)⟩,
  ⟨some 56, .pick (.t 53) (.t 55) (.c (.bool false)), some (50, false)⟩,
  ⟨some 57, .pick (.t 50) (.c (.bool true)) (.t 56), none⟩])
 (.cond (.t 57)
 (.seq (.reg [⟨some 10, .mv (.c (.bool false)), none⟩])
 (.ret))
 (.skip)))
 (.seq (.reg [⟨some 58, .mv (.t 15), none⟩,
  ⟨some 59, .mv (.t 58), none⟩,
  ⟨some 60, .mv (.t 11), some (59, true)⟩,
  ⟨some 61, .mv (.t 14), some (59, true)⟩,
  ⟨some 62, .call 14 [(.t 60), (.t 61)], some (59, true)⟩,
  ⟨some 63, .mv (.t 13), some (59, true)⟩,
  ⟨some 64, .bin .lss [] (.t 62) (.t 63), some (59, true)⟩,
  ⟨some 65, .mv (.t 64), some (59, true)⟩,
  ⟨some 66, .mv (.t 14), some (65, false)⟩,
  ⟨some 67, .bin .gtr [] (.t 66) (.c (.int .i64 0)), some (65, false)⟩,
  ⟨some 68, .mv (.t 67), some (65, false)⟩,
  ⟨some 69, .mv (.t 11), some (68, true)⟩,
  ⟨some 70, .mv (.t 14), some (68, true)⟩,
  ⟨some 71, .bin .sub [] (.t 70) (.c (.int .i64 1)), some (68, true)⟩,
  ⟨some 72, .call 14 [(.t 69), (.t 71)], some (68, true)⟩,
  ⟨some 73, .mv (.t 13), some (68, true)⟩,
  ⟨some 74, .bin .geq [] (.t 72) (.t 73), some (68, true)⟩,
  ⟨some 75, .pick (.t 68) (.t 74) (.c (.bool false)), some (65, false)⟩,
  ⟨some 76, .pick (.t 65) (.c (.bool true)) (.t 75), some (59, true)⟩,
  ⟨some 77, .mv (.t 76), some (59, true)⟩,
  ⟨some 78, .mv (.t 14), some (77, false)⟩,
  ⟨some 79, .bin .lss [] (.t 78) (.c (.int .i64 0)), some (77, false)⟩,
  ⟨some 80, .pick (.t 77) (.c (.bool true)) (.t 79), some (59, true)⟩,
  ⟨some 81, .mv (.t 80), some (59, true)⟩,
  ⟨some 82, .mv (.t 14), some (81, false)⟩,
  ⟨some 83, .bin .gtr [] (.t 82) (.c (.int .i64 4503599627370496)), some (81, false)⟩,
  ⟨some 84, .pick (.t 81) (.c (.bool true)) (.t 83), some (59, true)⟩,
  ⟨some 85, .pick (.t 59) (.t 84) (.c (.bool false)), none⟩])
 (.cond (.t 85)
 (.seq (.reg [⟨some 10, .mv (.c (.bool false)), none⟩])
 (.ret))
 (.skip)))))))
 (.reg [⟨some 86, .bin .add [] (.t 35) (.c (.int .i64 1)), none⟩,
  ⟨some 35, .mv (.t 86), none⟩])))))))
 (.seq (.reg [⟨some 88, .mv (.t 11), none⟩,
  ⟨some 89, .mv (.t 11), none⟩,
  ⟨some 90, .mv (.t 3), none⟩,
  ⟨some 91, .call 14 [(.t 89), (.t 90)], none⟩,
  ⟨some 92, .call 18 [(.t 88), (.t 91)], none⟩,
  ⟨some 87, .mv (.t 92), none⟩,
  ⟨some 93, .ex 0 (.t 87), none⟩,
  ⟨some 94, .ex 1 (.t 87), none⟩,
  ⟨some 16, .mv (.t 93), none⟩,
  ⟨some 17, .mv (.t 94), none⟩])
 (.seq (.reg [⟨some 95, .mv (.t 17), none⟩,
  ⟨some 96, .mv (.t 95), none⟩,
  ⟨some 97, .mv (.t 16), some (96, true)⟩,
  ⟨some 98, .mv (.t 3), some (96, true)⟩,
  ⟨some 99, .bin .leq [] (.t 97) (.t 98), some (96, true)⟩,
  ⟨some 100, .pick (.t 96) (.t 99) (.c (.bool false)), none⟩,
  ⟨some 101, .mv (.t 100), none⟩,
  ⟨some 102, .call 17 [], some (101, true)⟩,
  ⟨some 103, .pick (.t 101) (.t 102) (.c (.bool false)), none⟩,
  ⟨some 10, .mv (.t 103), none⟩])
 (.ret))))))),
 [.tmp 10], true⟩
/-- ephemeris/ephemerislaw30.SkyTells -/
def M5 : MFunc := ⟨.seq (.reg [⟨some 10, .mv (.c (.bool false)), none⟩])
 (.seq (.reg [⟨some 26, .mv (.t 3), none⟩,
  ⟨some 27, .mv (.t 3), none⟩,
  ⟨some 28, .len none (.t 27), none⟩,
  ⟨some 29, .mnx false [(.t 28), (.c (.int .i64 70))], none⟩,
  ⟨some 30, .slc none 2 (.t 26) none (some (.t 29)) none, none⟩,
  ⟨some 3, .mv (.t 30), none⟩])
 (.seq (.reg [⟨some 31, .mv (.t 3), none⟩,
  ⟨some 32, .app (.ints .i64 [0, 0]) 16 (.c .nils) (.t 31), none⟩,
  ⟨some 11, .mv (.t 32), none⟩])
 (.seq (.reg [⟨some 12, .mv (.c .nils), none⟩])
 (.seq (.seq (.reg [⟨some 13, .mv (.c (.int .i64 0)), none⟩])
 (.block 0 [0, 1, 2, 4, 11, 12]
 (.loop [0, 1, 2, 3, 4, 11, 12, 13]
 (.seq (.seq (.reg [⟨some 33, .mv (.t 13), none⟩,
  ⟨some 34, .mv (.t 3), none⟩,
  ⟨some 35, .len none (.t 34), none⟩,
  ⟨some 36, .bin .lss [] (.t 33) (.t 35), none⟩])
 (.cond (.t 36)
 (.skip)
 (.exit 0)))
 (.seq (.block 1 [0, 1, 2, 3, 4, 11, 12, 13]
 (.reg [⟨some 39, .mv (.t 12), none⟩,
  ⟨some 40, .mv (.t 3), none⟩,
  ⟨some 41, .mv (.t 13), none⟩,
  ⟨some 42, .ia none 2 (.t 40) (.t 41), none⟩,
  ⟨some 43, .ld (some 2) (.t 42), none⟩,
  ⟨some 44, .bsl (.ints .i64 [0, 0]) 1 2 [(0, 2, (.t 43))], none⟩,
  ⟨some 45, .app (.ints .i64 [0, 0]) 16 (.t 39) (.t 44), none⟩,
  ⟨some 12, .mv (.t 45), none⟩]))
 (.reg [⟨some 37, .mv (.t 13), none⟩,
  ⟨some 38, .bin .add [] (.t 37) (.c (.int .i64 1)), none⟩,
  ⟨some 13, .mv (.t 38), none⟩]))))))
 (.seq (.reg [⟨some 47, .mv (.t 0), none⟩,
  ⟨some 48, .mv (.t 1), none⟩,
  ⟨some 49, .mv (.t 2), none⟩,
  ⟨some 50, .mv (.t 11), none⟩,
  ⟨some 51, .call 19 [(.t 47), (.t 48), (.t 49), (.t 50)], none⟩,
  ⟨some 46, .mv (.t 51), none⟩,
  ⟨some 52, .ex 0 (.t 46), none⟩,
  ⟨some 53, .ex 1 (.t 46), none⟩,
  ⟨some 14, .mv (.t 52), none⟩,
  ⟨some 15, .mv (.t 53), none⟩])
 (.seq (.reg [⟨some 55, .mv (.t 0), none⟩,
  ⟨some 56, .mv (.t 1), none⟩,
  ⟨some 57, .mv (.t 2), none⟩,
  ⟨some 58, .mv (.t 12), none⟩,
  ⟨some 59, .call 20 [(.t 55), (.t 56), (.t 57), (.t 58)], none⟩,
  ⟨some 54, .mv (.t 59), none⟩,
  ⟨some 60, .ex 0 (.t 54), none⟩,
  ⟨some 61, .ex 1 (.t 54), none⟩,
  ⟨some 16, .mv (.t 60), none⟩,
  ⟨some 17, .mv (.t 61), none⟩])
 (.seq (.seq (.reg [⟨some 62, .mv (.t 15), none⟩,
  ⟨some 63, .mv (.t 17), none⟩,
  ⟨some 64, .bin .neq [] (.t 62) (.t 63), none⟩,
  ⟨some 65, .mv (.t 64), none⟩,
  ⟨some 66, .mv (.t 15), some (65, false)⟩,
  ⟨some 67, .bin .eql [] (.t 66) (.c (.int .i64 0)), some (65, false)⟩,
  ⟨some 68, .mv (.t 14), some (65, false)⟩,
  ⟨some 69, .bin .neq [2] (.t 68) (.c .nilp), some (65, false)⟩,
  ⟨some 70, .bin .neq [1] (.t 67) (.t 69), some (65, false)⟩,
  ⟨some 71, .pick (.t 65) (.c (.bool true)) (.t 70), none⟩])
 (.cond (.t 71)
 (.seq (.reg [⟨some 10, .mv (.c (.bool false)), none⟩])
 (.ret))
 (.skip)))
 (.seq (.seq (.reg [⟨some 72, .mv (.t 15), none⟩,
  ⟨some 73, .bin .neq [] (.t 72) (.c (.int .i64 0)), none⟩])
 (.cond (.t 73)
 (.seq (.reg [⟨some 74, .call 17 [], none⟩,
  ⟨some 10, .mv (.t 74), none⟩])
 (.ret))
 (.skip)))
 (.seq (.seq (.reg [⟨some 18, .mv (.c (.int .i64 0)), none⟩])
 (.block 2 [4, 14, 16]
 (.loop [4, 11, 14, 16, 18]
 (.seq (.seq (.reg [⟨some 75, .mv (.t 18), none⟩,
  ⟨some 76, .mv (.t 11), none⟩,
  ⟨some 77, .len none (.t 76), none⟩,
  ⟨some 78, .bin .lss [] (.t 75) (.t 77), none⟩])
 (.cond (.t 78)
 (.skip)
 (.exit 2)))
 (.seq (.block 3 [4, 11, 14, 16, 18]
 (.reg [⟨some 81, .mv (.t 11), none⟩,
  ⟨some 82, .mv (.t 18), none⟩,
  ⟨some 83, .bld [(.int .i64 0), (.int .i64 0)] [(0, 1, (.c (.int .i64 5))), (1, 1, (.c (.int .i64 5)))], none⟩,
  ⟨some 84, .ia none 2 (.t 81) (.t 82), none⟩,
  ⟨none, .st 2 (.t 84) (.t 83), none⟩]))
 (.reg [⟨some 79, .mv (.t 18), none⟩,
  ⟨some 80, .bin .add [] (.t 79) (.c (.int .i64 1)), none⟩,
  ⟨some 18, .mv (.t 80), none⟩]))))))
 (.seq (.seq (.reg [⟨some 19, .mv (.c (.int .i64 0)), none⟩])
 (.block 4 [14, 16]
 (.loop [4, 14, 16, 19]
 (.seq (.seq (.reg [⟨some 85, .mv (.t 19), none⟩,
  ⟨some 86, .mv (.t 4), none⟩,
  ⟨some 87, .len none (.t 86), none⟩,
  ⟨some 88, .bin .lss [] (.t 85) (.t 87), none⟩,
  ⟨some 89, .mv (.t 88), none⟩,
  ⟨some 90, .mv (.t 19), some (89, true)⟩,
  ⟨some 91, .bin .lss [] (.t 90) (.c (.int .i64 8)), some (89, true)⟩,
  ⟨some 92, .pick (.t 89) (.t 91) (.c (.bool false)), none⟩])
 (.cond (.t 92)
 (.skip)
 (.exit 4)))
 (.seq (.block 5 [4, 14, 16, 19]
 (.seq (.reg [⟨some 95, .mv (.t 4), none⟩,
  ⟨some 96, .mv (.t 19), none⟩,
  ⟨some 97, .ia none 1 (.t 95) (.t 96), none⟩,
  ⟨some 98, .ld none (.t 97), none⟩,
  ⟨some 20, .mv (.t 98), none⟩])
 (.seq (.reg [⟨some 99, .mv (.t 16), none⟩,
  ⟨some 100, .mv (.t 20), none⟩,
  ⟨some 101, .call 21 [(.t 99), (.t 100)], none⟩,
  ⟨some 21, .mv (.t 101), none⟩])
 (.seq (.reg [⟨some 103, .mv (.t 14), none⟩,
  ⟨some 104, .mv (.t 21), none⟩,
  ⟨some 105, .mv (.t 19), none⟩,
  ⟨some 106, .bin .rem [] (.t 105) (.c (.int .i64 2)), none⟩,
  ⟨some 107, .ci .u64 (.t 106), none⟩,
  ⟨some 108, .bin .add [] (.t 104) (.t 107), none⟩,
  ⟨some 109, .call 18 [(.t 103), (.t 108)], none⟩,
  ⟨some 102, .mv (.t 109), none⟩,
  ⟨some 110, .ex 0 (.t 102), none⟩,
  ⟨some 111, .ex 1 (.t 102), none⟩,
  ⟨some 22, .mv (.t 110), none⟩,
  ⟨some 23, .mv (.t 111), none⟩])
 (.seq (.reg [⟨some 113, .mv (.t 16), none⟩,
  ⟨some 114, .mv (.t 21), none⟩,
  ⟨some 115, .mv (.t 19), none⟩,
  ⟨some 116, .bin .rem [] (.t 115) (.c (.int .i64 2)), none⟩,
  ⟨some 117, .ci .u64 (.t 116), none⟩,
  ⟨some 118, .bin .add [] (.t 114) (.t 117), none⟩,
  ⟨some 119, .call 22 [(.t 113), (.t 118)], none⟩,
  ⟨some 112, .mv (.t 119), none⟩,
  ⟨some 120, .ex 0 (.t 112), none⟩,
  ⟨some 121, .ex 1 (.t 112), none⟩,
  ⟨some 24, .mv (.t 120), none⟩,
  ⟨some 25, .mv (.t 121), none⟩])
 (.seq (.reg [⟨some 122, .mv (.t 14), none⟩,
  ⟨some 123, .mv (.t 20), none⟩,
  ⟨some 124, .call 14 [(.t 122), (.t 123)], none⟩,
  ⟨some 125, .mv (.t 21), none⟩,
  ⟨some 126, .bin .neq [] (.t 124) (.t 125), none⟩,
  ⟨some 127, .mv (.t 126), none⟩,
  ⟨some 128, .mv (.t 14), some (127, false)⟩,
  ⟨some 129, .mv (.t 20), some (127, false)⟩,
  ⟨some 130, .call 15 [(.t 128), (.t 129)], some (127, false)⟩,
  ⟨some 131, .mv (.t 16), some (127, false)⟩,
  ⟨some 132, .mv (.t 20), some (127, false)⟩,
  ⟨some 133, .call 23 [(.t 131), (.t 132)], some (127, false)⟩,
  ⟨some 134, .bin .neq [] (.t 130) (.t 133), some (127, false)⟩,
  ⟨some 135, .pick (.t 127) (.c (.bool true)) (.t 134), none⟩,
  ⟨some 136, .mv (.t 135), none⟩,
  ⟨some 137, .mv (.t 14), some (136, false)⟩,
  ⟨some 138, .mv (.t 20), some (136, false)⟩,
  ⟨some 139, .call 16 [(.t 137), (.t 138)], some (136, false)⟩,
  ⟨some 140, .mv (.t 16), some (136, false)⟩,
  ⟨some 141, .mv (.t 20), some (136, false)⟩,
  ⟨some 142, .call 24 [(.t 140), (.t 141)], some (136, false)⟩,
  ⟨some 143, .bin .neq [] (.t 139) (.t 142), some (136, false)⟩,
  ⟨some 144, .pick (.t 136) (.c (.bool true)) (.t 143), none⟩,
  ⟨some 145, .mv (.t 144), none⟩,
  ⟨some 146, .mv (.t 14), some (145, false)⟩,
  ⟨some 147, .mv (.t 20), some (145, false)⟩,
  ⟨some 148, .call 25 [(.t 146), (.t 147)], some (145, false)⟩,
  ⟨some 149, .mv (.t 16), some (145, false)⟩,
  ⟨some 150, .mv (.t 20), some (145, false)⟩,
  ⟨some 151, .call 26 [(.t 149), (.t 150)], some (145, false)⟩,
  ⟨some 152, .bin .neq [] (.t 148) (.t 151), some (145, false)⟩,
  ⟨some 153, .pick (.t 145) (.c (.bool true)) (.t 152), none⟩,
  ⟨some 154, .mv (.t 153), none⟩,
  ⟨some 155, .mv (.t 22), some (154, false)⟩,
  ⟨some 156, .mv (.t 24), some (154, false)⟩,
  ⟨some 157, .bin .neq [] (.t 155) (.t 156), some (154, false)⟩,
  ⟨some 158, .pick (.t 154) (.c (.bool true)) (.t 157), none⟩,
  ⟨some 159, .mv (.t 158), none⟩,
  ⟨some 160, .mv (.t 23), some (159, false)⟩,
  ⟨some 161, .mv (.t 25), some (159, false)⟩,
  ⟨some 162, .bin .neq [1] (.t 160) (.t 161), some (159, false)⟩,
  ⟨some 163, .pick (.t 159) (.c (.bool true)) (.t 162), none⟩])
 (.cond (.t 163)
 (.seq (.reg [⟨some 10, .mv (.c (.bool false)), none⟩])
 (.ret))
 (.skip))))))))
 (.reg [⟨some 93, .mv (.t 19), none⟩,
  ⟨some 94, .bin .add [] (.t 93) (.c (.int .i64 1)), none⟩,
  ⟨some 19, .mv (.t 94), none⟩]))))))
 (.seq (.reg [⟨some 164, .mv (.t 14), none⟩,
  ⟨some 165, .call 27 [(.t 164)], none⟩,
  ⟨some 166, .mv (.t 16), none⟩,
  ⟨some 167, .call 28 [(.t 166)], none⟩,
  ⟨some 168, .bin .eql [] (.t 165) (.t 167), none⟩,
  ⟨some 169, .mv (.t 168), none⟩,
  ⟨some 170, .call 17 [], some (169, true)⟩,
  ⟨some 171, .pick (.t 169) (.t 170) (.c (.bool false)), none⟩,
  ⟨some 10, .mv (.t 171), none⟩])
 (.ret)))))))))))),
 [.tmp 10], true⟩
/-- ephemeris/ephemerislaw30.SkyParts -/
def M6 : MFunc := ⟨.seq (.reg [⟨some 10, .mv (.c (.bool false)), none⟩])
 (.seq (.reg [⟨some 23, .bld [(.int .i64 0), (.int .i64 0)] [], none⟩,
  ⟨some 24, .bsl (.ints .i64 [0, 0]) 1 2 [(0, 2, (.t 23))], none⟩,
  ⟨some 11, .mv (.t 24), none⟩])
 (.seq (.seq (.reg [⟨some 12, .mv (.c (.int .i64 0)), none⟩])
 (.block 0 [0, 3, 4, 11]
 (.loop [0, 1, 2, 3, 4, 11, 12]
 (.seq (.seq (.reg [⟨some 25, .mv (.t 12), none⟩,
  ⟨some 26, .mv (.t 1), none⟩,
  ⟨some 27, .len none (.t 26), none⟩,
  ⟨some 28, .bin .lss [] (.t 25) (.t 27), none⟩,
  ⟨some 29, .mv (.t 28), none⟩,
  ⟨some 30, .mv (.t 12), some (29, true)⟩,
  ⟨some 31, .mv (.t 2), some (29, true)⟩,
  ⟨some 32, .len none (.t 31), some (29, true)⟩,
  ⟨some 33, .bin .lss [] (.t 30) (.t 32), some (29, true)⟩,
  ⟨some 34, .pick (.t 29) (.t 33) (.c (.bool false)), none⟩,
  ⟨some 35, .mv (.t 34), none⟩,
  ⟨some 36, .mv (.t 12), some (35, true)⟩,
  ⟨some 37, .bin .lss [] (.t 36) (.c (.int .i64 10)), some (35, true)⟩,
  ⟨some 38, .pick (.t 35) (.t 37) (.c (.bool false)), none⟩])
 (.cond (.t 38)
 (.skip)
 (.exit 0)))
 (.seq (.block 1 [0, 1, 2, 3, 4, 11, 12]
 (.seq (.reg [⟨some 41, .mv (.t 11), none⟩,
  ⟨some 42, .len none (.t 41), none⟩,
  ⟨some 43, .bin .sub [] (.t 42) (.c (.int .i64 1)), none⟩,
  ⟨some 13, .mv (.t 43), none⟩])
 (.seq (.reg [⟨some 44, .mv (.t 11), none⟩,
  ⟨some 45, .mv (.t 13), none⟩,
  ⟨some 46, .mv (.t 2), none⟩,
  ⟨some 47, .mv (.t 12), none⟩,
  ⟨some 48, .ia none 1 (.t 46) (.t 47), none⟩,
  ⟨some 49, .ld none (.t 48), none⟩,
  ⟨some 50, .bin .rem [] (.t 49) (.c (.int .i32 500001)), none⟩,
  ⟨some 51, .ci .i64 (.t 50), none⟩,
  ⟨some 52, .ia none 2 (.t 44) (.t 45), none⟩,
  ⟨some 53, .fa 1 (.t 52), none⟩,
  ⟨none, .st 1 (.t 53) (.t 51), none⟩])
 (.regd [(0, ⟨some 54, .mv (.t 11), none⟩),
  (1, ⟨some 55, .mv (.t 11), none⟩),
  (2, ⟨some 56, .mv (.t 13), none⟩),
  (3, ⟨some 57, .ia none 2 (.t 55) (.t 56), none⟩),
  (4, ⟨some 58, .fa 0 (.t 57), none⟩),
  (5, ⟨some 59, .ld none (.t 58), none⟩),
  (6, ⟨some 60, .bin .add [] (.t 59) (.c (.int .i64 1)), none⟩),
  (7, ⟨some 61, .mv (.t 1), none⟩),
  (8, ⟨some 62, .mv (.t 12), none⟩),
  (9, ⟨some 63, .ia none 1 (.t 61) (.t 62), none⟩),
  (10, ⟨some 64, .ld none (.t 63), none⟩),
  (11, ⟨some 65, .bin .rem [] (.t 64) (.c (.int .u64 70368744177664)), none⟩),
  (12, ⟨some 66, .ci .i64 (.t 65), none⟩),
  (13, ⟨some 67, .bin .add [] (.t 60) (.t 66), none⟩),
  (14, ⟨some 68, .bld [(.int .i64 0), (.int .i64 0)] [(0, 1, (.t 67))], none⟩),
  (15, ⟨some 69, .bsl (.ints .i64 [0, 0]) 1 2 [(0, 2, (.t 68))], none⟩),
  (16, ⟨some 70, .app (.ints .i64 [0, 0]) 16 (.t 54) (.t 69), none⟩),
  (17, ⟨some 11, .mv (.t 70), none⟩)] []))))
 (.reg [⟨some 39, .mv (.t 12), none⟩,
  ⟨some 40, .bin .add [] (.t 39) (.c (.int .i64 1)), none⟩,
  ⟨some 12, .mv (.t 40), none⟩]))))))
 (.seq (.reg [⟨some 71, .mv (.t 3), none⟩,
  ⟨some 72, .bin .and [] (.t 71) (.c (.int .i64 4503599627370495)), none⟩,
  ⟨some 73, .bin .add [] (.c (.int .i64 1)) (.t 72), none⟩,
  ⟨some 74, .mv (.t 4), none⟩,
  ⟨some 75, .bin .and [] (.t 74) (.c (.int .i64 4503599627370495)), none⟩,
  ⟨some 3, .mv (.t 73), none⟩,
  ⟨some 4, .mv (.t 75), none⟩])
 (.seq (.reg [⟨some 14, .mv (.c .nils), none⟩])
 (.seq (.seq (.reg [⟨some 15, .mv (.c (.int .i64 0)), none⟩])
 (.block 2 [0, 3, 4, 11, 14]
 (.loop [0, 3, 4, 11, 14, 15]
 (.seq (.seq (.reg [⟨some 76, .mv (.t 15), none⟩,
  ⟨some 77, .mv (.t 11), none⟩,
  ⟨some 78, .len none (.t 77), none⟩,
  ⟨some 79, .bin .lss [] (.t 76) (.t 78), none⟩])
 (.cond (.t 79)
 (.skip)
 (.exit 2)))
 (.seq (.block 3 [0, 3, 4, 11, 14, 15]
 (.seq (.reg [⟨some 82, .mv (.t 14), none⟩,
  ⟨some 83, .mv (.t 11), none⟩,
  ⟨some 84, .mv (.t 15), none⟩,
  ⟨some 85, .ia none 2 (.t 83) (.t 84), none⟩,
  ⟨some 86, .ld (some 2) (.t 85), none⟩,
  ⟨some 87, .bsl (.ints .i64 [0, 0]) 1 2 [(0, 2, (.t 86))], none⟩,
  ⟨some 88, .app (.ints .i64 [0, 0]) 16 (.t 82) (.t 87), none⟩,
  ⟨some 14, .mv (.t 88), none⟩])
 (.seq (.reg [⟨some 89, .mv (.t 3), none⟩,
  ⟨some 90, .mv (.t 11), none⟩,
  ⟨some 91, .mv (.t 15), none⟩,
  ⟨some 92, .ia none 2 (.t 90) (.t 91), none⟩,
  ⟨some 93, .fa 0 (.t 92), none⟩,
  ⟨some 94, .ld none (.t 93), none⟩,
  ⟨some 95, .bin .gtr [] (.t 89) (.t 94), none⟩,
  ⟨some 96, .mv (.t 95), none⟩,
  ⟨some 97, .mv (.t 15), some (96, true)⟩,
  ⟨some 98, .bin .add [] (.t 97) (.c (.int .i64 1)), some (96, true)⟩,
  ⟨some 99, .mv (.t 11), some (96, true)⟩,
  ⟨some 100, .len none (.t 99), some (96, true)⟩,
  ⟨some 101, .bin .eql [] (.t 98) (.t 100), some (96, true)⟩,
  ⟨some 102, .mv (.t 101), some (96, true)⟩,
  ⟨some 103, .mv (.t 3), some (102, false)⟩,
  ⟨some 104, .mv (.t 11), some (102, false)⟩,
  ⟨some 105, .mv (.t 15), some (102, false)⟩,
  ⟨some 106, .bin .add [] (.t 105) (.c (.int .i64 1)), some (102, false)⟩,
  ⟨some 107, .ia none 2 (.t 104) (.t 106), some (102, false)⟩,
  ⟨some 108, .fa 0 (.t 107), some (102, false)⟩,
  ⟨some 109, .ld none (.t 108), some (102, false)⟩,
  ⟨some 110, .bin .lss [] (.t 103) (.t 109), some (102, false)⟩,
  ⟨some 111, .pick (.t 102) (.c (.bool true)) (.t 110), some (96, true)⟩,
  ⟨some 112, .pick (.t 96) (.t 111) (.c (.bool false)), none⟩])
 (.cond (.t 112)
 (.reg [⟨some 113, .mv (.t 14), none⟩,
  ⟨some 114, .mv (.t 3), none⟩,
  ⟨some 115, .mv (.t 11), none⟩,
  ⟨some 116, .mv (.t 15), none⟩,
  ⟨some 117, .ia none 2 (.t 115) (.t 116), none⟩,
  ⟨some 118, .fa 1 (.t 117), none⟩,
  ⟨some 119, .ld none (.t 118), none⟩,
  ⟨some 120, .bld [(.int .i64 0), (.int .i64 0)] [(0, 1, (.t 114)), (1, 1, (.t 119))], none⟩,
  ⟨some 121, .bsl (.ints .i64 [0, 0]) 1 2 [(0, 2, (.t 120))], none⟩,
  ⟨some 122, .app (.ints .i64 [0, 0]) 16 (.t 113) (.t 121), none⟩,
  ⟨some 14, .mv (.t 122), none⟩])
 (.skip)))))
 (.reg [⟨some 80, .mv (.t 15), none⟩,
  ⟨some 81, .bin .add [] (.t 80) (.c (.int .i64 1)), none⟩,
  ⟨some 15, .mv (.t 81), none⟩]))))))
 (.seq (.reg [⟨some 123, .mv (.t 0), none⟩,
  ⟨some 124, .ci .u64 (.t 123), none⟩,
  ⟨some 125, .bin .rem [] (.t 124) (.c (.int .u64 999999001)), none⟩,
  ⟨some 126, .bin .add [] (.c (.int .u64 1000)) (.t 125), none⟩,
  ⟨some 16, .mv (.t 126), none⟩])
 (.seq (.reg [⟨some 128, .mv (.t 16), none⟩,
  ⟨some 129, .mv (.t 11), none⟩,
  ⟨some 130, .call 19 [(.t 128), (.c (.int .i64 32)), (.c (.int .u64 5)), (.t 129)], none⟩,
  ⟨some 127, .mv (.t 130), none⟩,
  ⟨some 131, .ex 0 (.t 127), none⟩,
  ⟨some 132, .ex 1 (.t 127), none⟩,
  ⟨some 17, .mv (.t 131), none⟩,
  ⟨some 18, .mv (.t 132), none⟩])
 (.seq (.reg [⟨some 134, .mv (.t 16), none⟩,
  ⟨some 135, .mv (.t 14), none⟩,
  ⟨some 136, .call 19 [(.t 134), (.c (.int .i64 32)), (.c (.int .u64 5)), (.t 135)], none⟩,
  ⟨some 133, .mv (.t 136), none⟩,
  ⟨some 137, .ex 0 (.t 133), none⟩,
  ⟨some 138, .ex 1 (.t 133), none⟩,
  ⟨some 19, .mv (.t 137), none⟩,
  ⟨some 20, .mv (.t 138), none⟩])
 (.seq (.seq (.reg [⟨some 139, .mv (.t 18), none⟩,
  ⟨some 140, .bin .neq [] (.t 139) (.c (.int .i64 0)), none⟩,
  ⟨some 141, .mv (.t 140), none⟩,
  ⟨some 142, .mv (.t 20), some (141, false)⟩,
  ⟨some 143, .bin .neq [] (.t 142) (.c (.int .i64 0)), some (141, false)⟩,
  ⟨some 144, .pick (.t 141) (.c (.bool true)) (.t 143), none⟩])
 (.cond (.t 144)
 (.seq (.reg [⟨some 10, .mv (.c (.bool false)), none⟩])
 (.ret))
 (.skip)))
 (.seq (.seq (.reg [⟨some 145, .mv (.t 4), none⟩,
  ⟨some 146, .mv (.t 3), none⟩,
  ⟨some 147, .mv (.t 3), none⟩,
  ⟨some 148, .bin .sub [] (.t 147) (.c (.int .i64 1)), none⟩,
  ⟨some 149, .bld [(.int .i64 0), (.int .i64 0), (.int .i64 0), (.int .i64 0)] [(0, 1, (.t 145)), (1, 1, (.t 146)), (2, 1, (.t 148)), (3, 1, (.c (.int .i64 4503599627370496)))], none⟩,
  ⟨some 150, .mv (.c (.int .i64 0)), none⟩])
 (.block 4 [17, 19]
 (.loop [17, 19, 149, 150]
 (.seq (.reg [⟨some 151, .bin .lss [] (.t 150) (.c (.int .i64 4)), none⟩])
 (.seq (.cond (.t 151)
 (.skip)
 (.exit 4))
 (.seq (.block 5 [17, 19, 149, 150]
 (.seq (.reg [⟨some 152, .ixa 4 1 none (.t 149) (.t 150), none⟩,
  ⟨some 22, .mv (.t 152), none⟩])
 (.seq (.reg [⟨some 153, .mv (.t 17), none⟩,
  ⟨some 154, .mv (.t 22), none⟩,
  ⟨some 155, .call 14 [(.t 153), (.t 154)], none⟩,
  ⟨some 156, .mv (.t 19), none⟩,
  ⟨some 157, .mv (.t 22), none⟩,
  ⟨some 158, .call 14 [(.t 156), (.t 157)], none⟩,
  ⟨some 159, .bin .neq [] (.t 155) (.t 158), none⟩,
  ⟨some 160, .mv (.t 159), none⟩,
  ⟨some 161, .mv (.t 17), some (160, false)⟩,
  ⟨some 162, .mv (.t 22), some (160, false)⟩,
  ⟨some 163, .call 15 [(.t 161), (.t 162)], some (160, false)⟩,
  ⟨some 164, .mv (.t 19), some (160, false)⟩,
  ⟨some 165, .mv (.t 22), some (160, false)⟩,
  ⟨some 166, .call 15 [(.t 164), (.t 165)], some (160, false)⟩,
  ⟨some 167, .bin .neq [] (.t 163) (.t 166), some (160, false)⟩,
  ⟨some 168, .pick (.t 160) (.c (.bool true)) (.t 167), none⟩,
  ⟨some 169, .mv (.t 168), none⟩,
  ⟨some 170, .mv (.t 17), some (169, false)⟩,
  ⟨some 171, .mv (.t 22), some (169, false)⟩,
  ⟨some 172, .call 16 [(.t 170), (.t 171)], some (169, false)⟩,
  ⟨some 173, .mv (.t 19), some (169, false)⟩,
  ⟨some 174, .mv (.t 22), some (169, false)⟩,
  ⟨some 175, .call 16 [(.t 173), (.t 174)], some (169, false)⟩,
  ⟨some 176, .bin .neq [] (.t 172) (.t 175), some (169, false)⟩,
  ⟨some 177, .pick (.t 169) (.c (.bool true)) (.t 176), none⟩,
  ⟨some 178, .mv (.t 177), none⟩,
  ⟨some 179, .mv (.t 17), some (178, false)⟩,
  ⟨some 180, .mv (.t 22), some (178, false)⟩,
  ⟨some 181, .call 25 [(.t 179), (.t 180)], some (178, false)⟩,
  ⟨some 182, .mv (.t 19), some (178, false)⟩,
  ⟨some 183, .mv (.t 22), some (178, false)⟩,
  ⟨some 184, .call 25 [(.t 182), (.t 183)], some (178, false)⟩,
  ⟨some 185, .bin .neq [] (.t 181) (.t 184), some (178, false)⟩,
  ⟨some 186, .pick (.t 178) (.c (.bool true)) (.t 185), none⟩])
 (.cond (.t 186)
 (.seq (.reg [⟨some 10, .mv (.c (.bool false)), none⟩])
 (.ret))
 (.skip)))))
 (.reg [⟨some 187, .bin .add [] (.t 150) (.c (.int .i64 1)), none⟩,
  ⟨some 150, .mv (.t 187), none⟩])))))))
 (.seq (.reg [⟨some 188, .mv (.t 17), none⟩,
  ⟨some 189, .call 27 [(.t 188)], none⟩,
  ⟨some 190, .mv (.t 19), none⟩,
  ⟨some 191, .call 27 [(.t 190)], none⟩,
  ⟨some 192, .bin .eql [] (.t 189) (.t 191), none⟩,
  ⟨some 193, .mv (.t 192), none⟩,
  ⟨some 194, .call 17 [], some (193, true)⟩,
  ⟨some 195, .pick (.t 193) (.t 194) (.c (.bool false)), none⟩,
  ⟨some 10, .mv (.t 195), none⟩])
 (.ret)))))))))))),
 [.tmp 10], true⟩
/-- ephemeris/ephemerislaw30.SkyRuled -/
def M7 : MFunc := ⟨.seq (.reg [⟨some 12, .mv (.c (.bool false)), none⟩])
 (.seq (.reg [⟨some 20, .mv (.t 0), none⟩,
  ⟨some 21, .mv (.t 1), none⟩,
  ⟨some 22, .mv (.t 2), none⟩,
  ⟨some 23, .call 13 [(.t 20), (.t 21), (.t 22)], none⟩,
  ⟨some 13, .mv (.t 23), none⟩])
 (.seq (.seq (.reg [⟨some 24, .mv (.t 13), none⟩,
  ⟨some 25, .bin .eql [2] (.t 24) (.c .nilp), none⟩])
 (.cond (.t 25)
 (.seq (.reg [⟨some 12, .mv (.c (.bool false)), none⟩])
 (.ret))
 (.skip)))
 (.seq (.reg [⟨some 26, .mv (.t 3), none⟩,
  ⟨some 27, .bin .and [] (.t 26) (.c (.int .i64 4503599627370495)), none⟩,
  ⟨some 28, .mv (.t 4), none⟩,
  ⟨some 29, .bin .and [] (.t 28) (.c (.int .i64 4503599627370495)), none⟩,
  ⟨some 3, .mv (.t 27), none⟩,
  ⟨some 4, .mv (.t 29), none⟩])
 (.seq (.seq (.reg [⟨some 30, .mv (.t 3), none⟩,
  ⟨some 31, .mv (.t 4), none⟩,
  ⟨some 32, .bin .gtr [] (.t 30) (.t 31), none⟩])
 (.cond (.t 32)
 (.reg [⟨some 33, .mv (.t 4), none⟩,
  ⟨some 34, .mv (.t 3), none⟩,
  ⟨some 3, .mv (.t 33), none⟩,
  ⟨some 4, .mv (.t 34), none⟩])
 (.skip)))
 (.seq (.reg [⟨some 35, .mv (.t 0), none⟩,
  ⟨some 36, .ci .u64 (.t 35), none⟩,
  ⟨some 37, .bin .rem [] (.t 36) (.c (.int .u64 999999001)), none⟩,
  ⟨some 38, .bin .add [] (.c (.int .u64 1000)) (.t 37), none⟩,
  ⟨some 39, .call 29 [(.t 38)], none⟩,
  ⟨some 14, .mv (.t 39), none⟩])
 (.seq (.reg [⟨some 40, .mv (.t 13), none⟩,
  ⟨some 41, .mv (.t 4), none⟩,
  ⟨some 42, .call 16 [(.t 40), (.t 41)], none⟩,
  ⟨some 43, .mv (.t 13), none⟩,
  ⟨some 44, .mv (.t 3), none⟩,
  ⟨some 45, .call 16 [(.t 43), (.t 44)], none⟩,
  ⟨some 46, .bin .sub [] (.t 42) (.t 45), none⟩,
  ⟨some 15, .mv (.t 46), none⟩])
 (.seq (.seq (.reg [⟨some 47, .mv (.t 13), none⟩,
  ⟨some 48, .call 27 [(.t 47)], none⟩,
  ⟨some 49, .mv (.t 13), none⟩,
  ⟨some 50, .call 27 [(.t 49)], none⟩,
  ⟨some 51, .mv (.t 5), none⟩,
  ⟨some 52, .ci .i64 (.t 51), none⟩,
  ⟨some 53, .bin .add [] (.t 50) (.t 52), none⟩,
  ⟨some 54, .mnx false [(.t 53), (.c (.int .i64 500000))], none⟩,
  ⟨some 55, .bld [(.int .i64 0), (.int .i64 0)] [(0, 1, (.t 48)), (1, 1, (.t 54))], none⟩,
  ⟨some 56, .mv (.c (.int .i64 0)), none⟩])
 (.block 0 []
 (.loop [3, 4, 14, 15, 55, 56]
 (.seq (.reg [⟨some 57, .bin .lss [] (.t 56) (.c (.int .i64 2)), none⟩])
 (.seq (.cond (.t 57)
 (.skip)
 (.exit 0))
 (.seq (.block 1 [3, 4, 14, 15, 55, 56]
 (.seq (.reg [⟨some 58, .ixa 2 1 none (.t 55) (.t 56), none⟩,
  ⟨some 17, .mv (.t 58), none⟩])
 (.seq (.reg [⟨some 60, .mv (.t 14), none⟩,
  ⟨some 61, .mv (.t 17), none⟩,
  ⟨some 62, .call 30 [(.t 60), (.t 61)], none⟩,
  ⟨some 59, .mv (.t 62), none⟩,
  ⟨some 63, .ex 0 (.t 59), none⟩,
  ⟨some 64, .ex 1 (.t 59), none⟩,
  ⟨some 18, .mv (.t 63), none⟩,
  ⟨some 19, .mv (.t 64), none⟩])
 (.seq (.reg [⟨some 65, .mv (.t 19), none⟩,
  ⟨some 66, .bin .neq [] (.t 65) (.c (.int .i64 0)), none⟩,
  ⟨some 67, .mv (.t 66), none⟩,
  ⟨some 68, .mv (.t 15), some (67, false)⟩,
  ⟨some 69, .bin .lss [] (.t 68) (.c (.int .i64 0)), some (67, false)⟩,
  ⟨some 70, .pick (.t 67) (.c (.bool true)) (.t 69), none⟩,
  ⟨some 71, .mv (.t 70), none⟩,
  ⟨some 72, .mv (.t 4), some (71, false)⟩,
  ⟨some 73, .mv (.t 3), some (71, false)⟩,
  ⟨some 74, .bin .sub [] (.t 72) (.t 73), some (71, false)⟩,
  ⟨some 75, .mv (.t 18), some (71, false)⟩,
  ⟨some 76, .mv (.t 15), some (71, false)⟩,
  ⟨some 77, .call 31 [(.t 75), (.t 76)], some (71, false)⟩,
  ⟨some 78, .bin .gtr [] (.t 74) (.t 77), some (71, false)⟩,
  ⟨some 79, .pick (.t 71) (.c (.bool true)) (.t 78), none⟩,
  ⟨some 80, .mv (.t 79), none⟩,
  ⟨some 81, .mv (.t 4), some (80, false)⟩,
  ⟨some 82, .mv (.t 3), some (80, false)⟩,
  ⟨some 83, .bin .sub [] (.t 81) (.t 82), some (80, false)⟩,
  ⟨some 84, .mv (.t 18), some (80, false)⟩,
  ⟨some 85, .mv (.t 15), some (80, false)⟩,
  ⟨some 86, .call 32 [(.t 84), (.t 85)], some (80, false)⟩,
  ⟨some 87, .bin .lss [] (.t 83) (.t 86), some (80, false)⟩,
  ⟨some 88, .pick (.t 80) (.c (.bool true)) (.t 87), none⟩])
 (.cond (.t 88)
 (.seq (.reg [⟨some 12, .mv (.c (.bool false)), none⟩])
 (.ret))
 (.skip))))))
 (.reg [⟨some 89, .bin .add [] (.t 56) (.c (.int .i64 1)), none⟩,
  ⟨some 56, .mv (.t 89), none⟩])))))))
 (.seq (.reg [⟨some 90, .call 17 [], none⟩,
  ⟨some 12, .mv (.t 90), none⟩])
 (.ret))))))))),
 [.tmp 12], true⟩
/-- ephemeris/ephemerislaw20.FilterBest -/
def M8 : MFunc := ⟨.seq (.reg [⟨some 12, .mv (.c (.bool false)), none⟩])
 (.seq (.reg [⟨some 38, .mv (.t 0), none⟩,
  ⟨some 39, .bin .rem [] (.t 38) (.c (.int .u32 1048576)), none⟩,
  ⟨some 40, .ci .i64 (.t 39), none⟩,
  ⟨some 41, .bin .add [] (.c (.int .i64 1)) (.t 40), none⟩,
  ⟨some 42, .mv (.t 1), none⟩,
  ⟨some 43, .bin .rem [] (.t 42) (.c (.int .u32 500001)), none⟩,
  ⟨some 44, .ci .i64 (.t 43), none⟩,
  ⟨some 13, .mv (.t 41), none⟩,
  ⟨some 14, .mv (.t 44), none⟩])
 (.seq (.reg [⟨some 46, .mv (.t 13), none⟩,
  ⟨some 47, .mv (.t 14), none⟩,
  ⟨some 48, .call 33 [(.t 46), (.t 47)], none⟩,
  ⟨some 45, .mv (.t 48), none⟩,
  ⟨some 49, .ex 0 (.t 45), none⟩,
  ⟨some 50, .ex 1 (.t 45), none⟩,
  ⟨some 15, .mv (.t 49), none⟩,
  ⟨some 16, .mv (.t 50), none⟩])
 (.seq (.reg [⟨some 52, .mv (.t 13), none⟩,
  ⟨some 53, .mv (.t 14), none⟩,
  ⟨some 54, .call 30 [(.t 52), (.t 53)], none⟩,
  ⟨some 51, .mv (.t 54), none⟩,
  ⟨some 55, .ex 0 (.t 51), none⟩,
  ⟨some 56, .ex 1 (.t 51), none⟩,
  ⟨some 17, .mv (.t 55), none⟩,
  ⟨some 18, .mv (.t 56), none⟩])
 (.seq (.seq (.reg [⟨some 57, .mv (.t 16), none⟩,
  ⟨some 58, .bin .neq [] (.t 57) (.c (.int .i64 0)), none⟩,
  ⟨some 59, .mv (.t 58), none⟩,
  ⟨some 60, .mv (.t 18), some (59, false)⟩,
  ⟨some 61, .bin .neq [] (.t 60) (.c (.int .i64 0)), some (59, false)⟩,
  ⟨some 62, .pick (.t 59) (.c (.bool true)) (.t 61), none⟩])
 (.cond (.t 62)
 (.seq (.reg [⟨some 12, .mv (.c (.bool false)), none⟩])
 (.ret))
 (.skip)))
 (.seq (.reg [⟨some 19, .mv (.c (.int .i64 0)), none⟩,
  ⟨some 20, .mv (.c (.int .i64 (-1))), none⟩])
 (.seq (.reg [⟨some 21, .mv (.c .nils), none⟩])
 (.seq (.seq (.reg [⟨some 22, .mv (.c (.int .i64 0)), none⟩])
 (.block 0 []
 (.loop [2, 3, 4, 5, 15, 17, 19, 20, 21, 22]
 (.seq (.seq (.reg [⟨some 63, .mv (.t 22), none⟩,
  ⟨some 64, .mv (.t 2), none⟩,
  ⟨some 65, .len none (.t 64), none⟩,
  ⟨some 66, .bin .lss [] (.t 63) (.t 65), none⟩,
  ⟨some 67, .mv (.t 66), none⟩,
  ⟨some 68, .mv (.t 22), some (67, true)⟩,
  ⟨some 69, .mv (.t 3), some (67, true)⟩,
  ⟨some 70, .len none (.t 69), some (67, true)⟩,
  ⟨some 71, .bin .lss [] (.t 68) (.t 70), some (67, true)⟩,
  ⟨some 72, .pick (.t 67) (.t 71) (.c (.bool false)), none⟩,
  ⟨some 73, .mv (.t 72), none⟩,
  ⟨some 74, .mv (.t 22), some (73, true)⟩,
  ⟨some 75, .mv (.t 4), some (73, true)⟩,
  ⟨some 76, .len none (.t 75), some (73, true)⟩,
  ⟨some 77, .bin .lss [] (.t 74) (.t 76), some (73, true)⟩,
  ⟨some 78, .pick (.t 73) (.t 77) (.c (.bool false)), none⟩,
  ⟨some 79, .mv (.t 78), none⟩,
  ⟨some 80, .mv (.t 22), some (79, true)⟩,
  ⟨some 81, .bin .lss [] (.t 80) (.c (.int .i64 30)), some (79, true)⟩,
  ⟨some 82, .pick (.t 79) (.t 81) (.c (.bool false)), none⟩])
 (.cond (.t 82)
 (.skip)
 (.exit 0)))
 (.seq (.block 1 [2, 3, 4, 5, 15, 17, 19, 20, 21, 22]
 (.seq (.reg [⟨some 85, .mv (.t 19), none⟩,
  ⟨some 86, .mv (.t 2), none⟩,
  ⟨some 87, .mv (.t 22), none⟩,
  ⟨some 88, .ia none 1 (.t 86) (.t 87), none⟩,
  ⟨some 89, .ld none (.t 88), none⟩,
  ⟨some 90, .ci .i64 (.t 89), none⟩,
  ⟨some 91, .bin .add [] (.t 85) (.t 90), none⟩,
  ⟨some 19, .mv (.t 91), none⟩])
 (.seq (.regd [(0, ⟨some 92, .mv (.t 19), none⟩),
  (1, ⟨some 93, .mv (.t 19), none⟩),
  (2, ⟨some 94, .bin .add [] (.c (.int .i64 1099511627776)) (.t 93), none⟩),
  (3, ⟨some 95, .mv (.t 3), none⟩),
  (4, ⟨some 96, .mv (.t 22), none⟩),
  (5, ⟨some 97, .ia none 1 (.t 95) (.t 96), none⟩),
  (6, ⟨some 98, .ld none (.t 97), none⟩),
  (7, ⟨some 99, .bin .rem [] (.t 98) (.c (.int .u32 1048576)), none⟩),
  (8, ⟨some 100, .ci .i64 (.t 99), none⟩),
  (9, ⟨some 101, .bin .sub [] (.t 94) (.t 100), none⟩),
  (10, ⟨some 102, .mv (.t 19), none⟩),
  (11, ⟨some 103, .bin .add [] (.c (.int .i64 1099511627776)) (.t 102), none⟩),
  (12, ⟨some 104, .mv (.t 4), none⟩),
  (13, ⟨some 105, .mv (.t 22), none⟩),
  (14, ⟨some 106, .ia none 1 (.t 104) (.t 105), none⟩),
  (15, ⟨some 107, .ld none (.t 106), none⟩),
  (16, ⟨some 108, .bin .rem [] (.t 107) (.c (.int .u32 1048576)), none⟩),
  (17, ⟨some 109, .ci .i64 (.t 108), none⟩),
  (18, ⟨some 110, .bin .add [] (.t 103) (.t 109), none⟩),
  (19, ⟨some 111, .bld [(.int .i64 0), (.int .i64 0), (.int .i64 0)] [(0, 1, (.t 92)), (1, 1, (.t 101)), (2, 1, (.t 110))], none⟩),
  (20, ⟨some 23, .al (.ints .i64 [0, 0, 0]), none⟩),
  (21, ⟨none, .st 3 (.t 23) (.t 111), none⟩)] [])
 (.seq (.seq (.reg [⟨some 112, .mv (.t 15), none⟩,
  ⟨some 113, .ld (some 3) (.t 23), none⟩,
  ⟨some 114, .call 34 [(.t 112), (.t 113)], none⟩])
 (.block 2 [2, 3, 4, 5, 15, 17, 19, 20, 21, 22]
 (.seq (.reg [⟨some 116, .bin .eql [] (.t 114) (.c (.int .i64 0)), none⟩,
  ⟨some 115, .mv (.t 116), none⟩])
 (.cond (.t 115)
 (.reg [⟨some 117, .mv (.t 21), none⟩,
  ⟨some 118, .ld (some 3) (.t 23), none⟩,
  ⟨some 119, .bsl (.ints .i64 [0, 0, 0]) 1 3 [(0, 3, (.t 118))], none⟩,
  ⟨some 120, .app (.ints .i64 [0, 0, 0]) 24 (.t 117) (.t 119), none⟩,
  ⟨some 21, .mv (.t 120), none⟩])
 (.seq (.reg [⟨some 122, .bin .eql [] (.t 114) (.c (.int .i64 35)), none⟩,
  ⟨some 121, .mv (.t 122), none⟩])
 (.cond (.t 121)
 (.skip)
 (.seq (.reg [⟨some 12, .mv (.c (.bool false)), none⟩])
 (.ret))))))))
 (.seq (.seq (.reg [⟨some 123, .mv (.t 21), none⟩,
  ⟨some 124, .len none (.t 123), none⟩,
  ⟨some 125, .bin .eql [] (.t 124) (.c (.int .i64 0)), none⟩])
 (.cond (.t 125)
 (.seq (.reg [⟨some 12, .mv (.c (.bool false)), none⟩])
 (.ret))
 (.skip)))
 (.seq (.reg [⟨some 126, .mv (.t 19), none⟩,
  ⟨some 127, .mv (.t 5), none⟩,
  ⟨some 128, .bin .rem [] (.t 127) (.c (.int .u32 1000)), none⟩,
  ⟨some 129, .ci .i64 (.t 128), none⟩,
  ⟨some 130, .mv (.t 22), none⟩,
  ⟨some 131, .bin .rem [] (.t 130) (.c (.int .i64 3)), none⟩,
  ⟨some 132, .bin .mul [] (.t 129) (.t 131), none⟩,
  ⟨some 133, .bin .add [] (.t 126) (.t 132), none⟩,
  ⟨some 24, .mv (.t 133), none⟩])
 (.seq (.reg [⟨some 135, .mv (.t 15), none⟩,
  ⟨some 136, .mv (.t 24), none⟩,
  ⟨some 137, .call 35 [(.t 135), (.t 136)], none⟩,
  ⟨some 134, .mv (.t 137), none⟩,
  ⟨some 138, .ex 0 (.t 134), none⟩,
  ⟨some 139, .ex 1 (.t 134), none⟩,
  ⟨some 25, .al (.ints .i64 [0, 0, 0]), none⟩,
  ⟨none, .st 3 (.t 25) (.t 138), none⟩,
  ⟨some 26, .mv (.t 139), none⟩])
 (.seq (.seq (.reg [⟨some 140, .mv (.t 26), none⟩,
  ⟨some 141, .un .not (.t 140), none⟩,
  ⟨some 142, .mv (.t 141), none⟩,
  ⟨some 143, .fa 0 (.t 25), some (142, false)⟩,
  ⟨some 144, .ld none (.t 143), some (142, false)⟩,
  ⟨some 145, .mv (.t 24), some (142, false)⟩,
  ⟨some 146, .bin .neq [] (.t 144) (.t 145), some (142, false)⟩,
  ⟨some 147, .pick (.t 142) (.c (.bool true)) (.t 146), none⟩,
  ⟨some 148, .mv (.t 147), none⟩,
  ⟨some 149, .ld (some 3) (.t 25), some (148, false)⟩,
  ⟨some 150, .mv (.t 24), some (148, false)⟩,
  ⟨some 151, .bin .add [] (.c (.int .i64 1099511627776)) (.t 150), some (148, false)⟩,
  ⟨some 152, .call 36 [(.t 149), (.t 151)], some (148, false)⟩,
  ⟨some 153, .un .not (.t 152), some (148, false)⟩,
  ⟨some 154, .pick (.t 148) (.c (.bool true)) (.t 153), none⟩])
 (.cond (.t 154)
 (.seq (.reg [⟨some 12, .mv (.c (.bool false)), none⟩])
 (.ret))
 (.skip)))
 (.seq (.seq (.reg [⟨some 155, .mv (.t 21), none⟩,
  ⟨some 156, .len none (.t 155), none⟩,
  ⟨some 157, .bin .sub [] (.t 156) (.c (.int .i64 1)), none⟩,
  ⟨some 27, .mv (.t 157), none⟩])
 (.block 3 [2, 3, 4, 5, 15, 17, 19, 20, 21, 22, 24, 25]
 (.loop [2, 3, 4, 5, 15, 17, 19, 20, 21, 22, 24, 25, 27]
 (.seq (.seq (.reg [⟨some 158, .mv (.t 27), none⟩,
  ⟨some 159, .bin .geq [] (.t 158) (.c (.int .i64 0)), none⟩,
  ⟨some 160, .mv (.t 159), none⟩,
  ⟨some 161, .mv (.t 27), some (160, true)⟩,
  ⟨some 162, .mv (.t 21), some (160, true)⟩,
  ⟨some 163, .len none (.t 162), some (160, true)⟩,
  ⟨some 164, .bin .sub [] (.t 163) (.c (.int .i64 8)), some (160, true)⟩,
  ⟨some 165, .bin .geq [] (.t 161) (.t 164), some (160, true)⟩,
  ⟨some 166, .pick (.t 160) (.t 165) (.c (.bool false)), none⟩])
 (.cond (.t 166)
 (.skip)
 (.exit 3)))
 (.seq (.block 4 [2, 3, 4, 5, 15, 17, 19, 20, 21, 22, 24, 25, 27]
 (.seq (.reg [⟨some 170, .mv (.t 17), none⟩,
  ⟨some 171, .mv (.t 21), none⟩,
  ⟨some 172, .mv (.t 27), none⟩,
  ⟨some 173, .ia none 3 (.t 171) (.t 172), none⟩,
  ⟨some 174, .ld (some 3) (.t 173), none⟩,
  ⟨some 175, .mv (.t 24), none⟩,
  ⟨some 176, .call 37 [(.t 170), (.t 174), (.t 175)], none⟩,
  ⟨some 169, .mv (.t 176), none⟩,
  ⟨some 177, .ex 0 (.t 169), none⟩,
  ⟨some 178, .ex 1 (.t 169), none⟩,
  ⟨some 28, .al (.ints .i64 [0, 0, 0]), none⟩,
  ⟨none, .st 3 (.t 28) (.t 177), none⟩,
  ⟨some 29, .mv (.t 178), none⟩])
 (.seq (.regd [(0, ⟨some 179, .mv (.t 29), none⟩),
  (1, ⟨some 180, .bin .neq [] (.t 179) (.c (.int .i64 0)), none⟩),
  (2, ⟨some 181, .mv (.t 180), none⟩),
  (3, ⟨some 182, .ld (some 3) (.t 28), some (181, false)⟩),
  (4, ⟨some 183, .call 38 [(.t 182)], some (181, false)⟩),
  (5, ⟨some 184, .ld (some 3) (.t 25), some (181, false)⟩),
  (6, ⟨some 185, .call 38 [(.t 184)], some (181, false)⟩),
  (7, ⟨some 186, .bin .lss [] (.t 183) (.t 185), some (181, false)⟩),
  (8, ⟨some 187, .pick (.t 181) (.c (.bool true)) (.t 186), none⟩)] [(5, 4)])
 (.cond (.t 187)
 (.seq (.reg [⟨some 12, .mv (.c (.bool false)), none⟩])
 (.ret))
 (.skip)))))
 (.reg [⟨some 167, .mv (.t 27), none⟩,
  ⟨some 168, .bin .sub [] (.t 167) (.c (.int .i64 1)), none⟩,
  ⟨some 27, .mv (.t 168), none⟩]))))))
 (.seq (.seq (.reg [⟨some 189, .mv (.t 15), none⟩,
  ⟨some 190, .mv (.t 24), none⟩,
  ⟨some 191, .call 39 [(.t 189), (.t 190)], none⟩,
  ⟨some 188, .mv (.t 191), none⟩,
  ⟨some 192, .ex 0 (.t 188), none⟩,
  ⟨some 193, .ex 1 (.t 188), none⟩,
  ⟨some 30, .al (.ints .i64 [0, 0, 0]), none⟩,
  ⟨none, .st 3 (.t 30) (.t 192), none⟩,
  ⟨some 31, .mv (.t 193), none⟩])
 (.seq (.reg [⟨some 194, .mv (.t 31), none⟩])
 (.cond (.t 194)
 (.seq (.seq (.reg [⟨some 195, .ld (some 3) (.t 30), none⟩,
  ⟨some 196, .ld (some 3) (.t 25), none⟩,
  ⟨some 197, .bin .neq [5, 0, 0, 0] (.t 195) (.t 196), none⟩])
 (.cond (.t 197)
 (.seq (.reg [⟨some 12, .mv (.c (.bool false)), none⟩])
 (.ret))
 (.skip)))
 (.seq (.reg [⟨some 32, .mv (.c (.int .i64 (-1))), none⟩])
 (.seq (.seq (.reg [⟨some 33, .mv (.c (.int .i64 0)), none⟩])
 (.block 5 [2, 3, 4, 5, 15, 17, 19, 21, 22, 24, 32]
 (.loop [2, 3, 4, 5, 15, 17, 19, 20, 21, 22, 24, 30, 32, 33]
 (.seq (.seq (.reg [⟨some 198, .mv (.t 33), none⟩,
  ⟨some 199, .mv (.t 21), none⟩,
  ⟨some 200, .len none (.t 199), none⟩,
  ⟨some 201, .bin .lss [] (.t 198) (.t 200), none⟩])
 (.cond (.t 201)
 (.skip)
 (.exit 5)))
 (.seq (.block 6 [2, 3, 4, 5, 15, 17, 19, 20, 21, 22, 24, 30, 32, 33]
 (.seq (.reg [⟨some 205, .mv (.t 17), none⟩,
  ⟨some 206, .mv (.t 21), none⟩,
  ⟨some 207, .mv (.t 33), none⟩,
  ⟨some 208, .ia none 3 (.t 206) (.t 207), none⟩,
  ⟨some 209, .ld (some 3) (.t 208), none⟩,
  ⟨some 210, .mv (.t 24), none⟩,
  ⟨some 211, .call 37 [(.t 205), (.t 209), (.t 210)], none⟩,
  ⟨some 204, .mv (.t 211), none⟩,
  ⟨some 212, .ex 0 (.t 204), none⟩,
  ⟨some 213, .ex 1 (.t 204), none⟩,
  ⟨some 34, .al (.ints .i64 [0, 0, 0]), none⟩,
  ⟨none, .st 3 (.t 34) (.t 212), none⟩,
  ⟨some 35, .mv (.t 213), none⟩])
 (.seq (.reg [⟨some 214, .ld (some 3) (.t 34), none⟩,
  ⟨some 215, .ld (some 3) (.t 30), none⟩,
  ⟨some 216, .bin .eql [5, 0, 0, 0] (.t 214) (.t 215), none⟩,
  ⟨some 217, .mv (.t 216), none⟩,
  ⟨some 218, .mv (.t 21), some (217, true)⟩,
  ⟨some 219, .mv (.t 33), some (217, true)⟩,
  ⟨some 220, .ia none 3 (.t 218) (.t 219), some (217, true)⟩,
  ⟨some 221, .fa 0 (.t 220), some (217, true)⟩,
  ⟨some 222, .ld none (.t 221), some (217, true)⟩,
  ⟨some 223, .mv (.t 20), some (217, true)⟩,
  ⟨some 224, .bin .gtr [] (.t 222) (.t 223), some (217, true)⟩,
  ⟨some 225, .pick (.t 217) (.t 224) (.c (.bool false)), none⟩])
 (.cond (.t 225)
 (.reg [⟨some 226, .mv (.t 21), none⟩,
  ⟨some 227, .mv (.t 33), none⟩,
  ⟨some 228, .ia none 3 (.t 226) (.t 227), none⟩,
  ⟨some 229, .fa 0 (.t 228), none⟩,
  ⟨some 230, .ld none (.t 229), none⟩,
  ⟨some 32, .mv (.t 230), none⟩])
 (.skip)))))
 (.reg [⟨some 202, .mv (.t 33), none⟩,
  ⟨some 203, .bin .add [] (.t 202) (.c (.int .i64 1)), none⟩,
  ⟨some 33, .mv (.t 203), none⟩]))))))
 (.seq (.seq (.reg [⟨some 231, .mv (.t 32), none⟩,
  ⟨some 232, .bin .lss [] (.t 231) (.c (.int .i64 0)), none⟩])
 (.cond (.t 232)
 (.seq (.reg [⟨some 12, .mv (.c (.bool false)), none⟩])
 (.ret))
 (.skip)))
 (.reg [⟨some 233, .mv (.t 32), none⟩,
  ⟨some 20, .mv (.t 233), none⟩])))))
 (.skip))))
 (.seq (.reg [⟨some 235, .mv (.t 15), none⟩,
  ⟨some 236, .mv (.t 24), none⟩,
  ⟨some 237, .call 39 [(.t 235), (.t 236)], none⟩,
  ⟨some 234, .mv (.t 237), none⟩,
  ⟨some 238, .ex 0 (.t 234), none⟩,
  ⟨some 239, .ex 1 (.t 234), none⟩,
  ⟨some 36, .al (.ints .i64 [0, 0, 0]), none⟩,
  ⟨none, .st 3 (.t 36) (.t 238), none⟩,
  ⟨some 37, .mv (.t 239), none⟩])
 (.seq (.reg [⟨some 240, .mv (.t 37), none⟩])
 (.cond (.t 240)
 (.seq (.reg [⟨some 12, .mv (.c (.bool false)), none⟩])
 (.ret))
 (.skip))))))))))))))
 (.reg [⟨some 83, .mv (.t 22), none⟩,
  ⟨some 84, .bin .add [] (.t 83) (.c (.int .i64 1)), none⟩,
  ⟨some 22, .mv (.t 84), none⟩]))))))
 (.seq (.reg [⟨some 241, .call 40 [], none⟩,
  ⟨some 12, .mv (.t 241), none⟩])
 (.ret))))))))),
 [.tmp 12], true⟩
/-- ephemeris/ephemerislaw20.FilterJumps -/
def M9 : MFunc := ⟨.seq (.reg [⟨some 6, .mv (.c (.bool false)), none⟩])
 (.seq (.reg [⟨some 21, .call 33 [(.c (.int .i64 1)), (.c (.int .i64 0))], none⟩,
  ⟨some 20, .mv (.t 21), none⟩,
  ⟨some 22, .ex 0 (.t 20), none⟩,
  ⟨some 23, .ex 1 (.t 20), none⟩,
  ⟨some 7, .mv (.t 22), none⟩,
  ⟨some 8, .mv (.t 23), none⟩])
 (.seq (.seq (.reg [⟨some 24, .mv (.t 8), none⟩,
  ⟨some 25, .bin .neq [] (.t 24) (.c (.int .i64 0)), none⟩])
 (.cond (.t 25)
 (.seq (.reg [⟨some 6, .mv (.c (.bool false)), none⟩])
 (.ret))
 (.skip)))
 (.seq (.reg [⟨some 26, .mv (.t 0), none⟩,
  ⟨some 27, .bin .rem [] (.t 26) (.c (.int .u8 13)), none⟩,
  ⟨some 28, .ci .i64 (.t 27), none⟩,
  ⟨some 9, .mv (.t 28), none⟩])
 (.seq (.seq (.reg [⟨some 10, .mv (.c (.int .i64 0)), none⟩])
 (.block 0 [1, 2, 7, 9]
 (.loop [1, 2, 7, 9, 10]
 (.seq (.seq (.reg [⟨some 29, .mv (.t 10), none⟩,
  ⟨some 30, .mv (.t 9), none⟩,
  ⟨some 31, .bin .lss [] (.t 29) (.t 30), none⟩])
 (.cond (.t 31)
 (.skip)
 (.exit 0)))
 (.seq (.block 1 [1, 2, 7, 9, 10]
 (.seq (.reg [⟨some 34, .mv (.t 10), none⟩,
  ⟨some 35, .bin .mul [] (.t 34) (.c (.int .i64 100)), none⟩,
  ⟨some 11, .mv (.t 35), none⟩])
 (.seq (.reg [⟨some 36, .mv (.t 7), none⟩,
  ⟨some 37, .mv (.t 11), none⟩,
  ⟨some 38, .mv (.t 11), none⟩,
  ⟨some 39, .bin .add [] (.c (.int .i64 1125899906842624)) (.t 38), none⟩,
  ⟨some 40, .mv (.t 11), none⟩,
  ⟨some 41, .bin .add [] (.c (.int .i64 1125899906842624)) (.t 40), none⟩,
  ⟨some 42, .bin .add [] (.t 41) (.c (.int .i64 10)), none⟩,
  ⟨some 43, .bld [(.int .i64 0), (.int .i64 0), (.int .i64 0)] [(0, 1, (.t 37)), (1, 1, (.t 39)), (2, 1, (.t 42))], none⟩,
  ⟨some 44, .call 34 [(.t 36), (.t 43)], none⟩,
  ⟨some 45, .bin .neq [] (.t 44) (.c (.int .i64 0)), none⟩])
 (.cond (.t 45)
 (.seq (.reg [⟨some 6, .mv (.c (.bool false)), none⟩])
 (.ret))
 (.skip)))))
 (.reg [⟨some 32, .mv (.t 10), none⟩,
  ⟨some 33, .bin .add [] (.t 32) (.c (.int .i64 1)), none⟩,
  ⟨some 10, .mv (.t 33), none⟩]))))))
 (.seq (.reg [⟨some 46, .mv (.t 9), none⟩,
  ⟨some 47, .bin .mul [] (.t 46) (.c (.int .i64 100)), none⟩,
  ⟨some 12, .mv (.t 47), none⟩])
 (.seq (.reg [⟨some 48, .mv (.t 1), none⟩,
  ⟨some 49, .bin .rem [] (.t 48) (.c (.int .u64 1099511627776)), none⟩,
  ⟨some 50, .ci .i64 (.t 49), none⟩,
  ⟨some 51, .bin .add [] (.c (.int .i64 10000)) (.t 50), none⟩,
  ⟨some 13, .mv (.t 51), none⟩])
 (.seq (.reg [⟨some 52, .mv (.t 7), none⟩,
  ⟨some 53, .call 41 [(.t 52)], none⟩,
  ⟨some 14, .mv (.t 53), none⟩])
 (.seq (.reg [⟨some 54, .mv (.t 7), none⟩,
  ⟨some 55, .mv (.t 12), none⟩,
  ⟨some 56, .mv (.t 12), none⟩,
  ⟨some 57, .bin .add [] (.c (.int .i64 1125899906842624)) (.t 56), none⟩,
  ⟨some 58, .mv (.t 13), none⟩,
  ⟨some 59, .bin .add [] (.t 57) (.t 58), none⟩,
  ⟨some 60, .mv (.t 12), none⟩,
  ⟨some 61, .bin .add [] (.c (.int .i64 1125899906842624)) (.t 60), none⟩,
  ⟨some 62, .mv (.t 13), none⟩,
  ⟨some 63, .bin .add [] (.t 61) (.t 62), none⟩,
  ⟨some 64, .bin .add [] (.t 63) (.c (.int .i64 10)), none⟩,
  ⟨some 65, .bld [(.int .i64 0), (.int .i64 0), (.int .i64 0)] [(0, 1, (.t 55)), (1, 1, (.t 59)), (2, 1, (.t 64))], none⟩,
  ⟨some 66, .call 34 [(.t 54), (.t 65)], none⟩,
  ⟨some 15, .mv (.t 66), none⟩])
 (.seq (.seq (.reg [⟨some 67, .mv (.t 15), none⟩,
  ⟨some 68, .bin .eql [] (.t 67) (.c (.int .i64 35)), none⟩,
  ⟨some 69, .mv (.t 9), none⟩,
  ⟨some 70, .bin .geq [] (.t 69) (.c (.int .i64 3)), none⟩,
  ⟨some 71, .bin .neq [1] (.t 68) (.t 70), none⟩,
  ⟨some 72, .mv (.t 71), none⟩,
  ⟨some 73, .mv (.t 7), some (72, false)⟩,
  ⟨some 74, .call 42 [(.t 73)], some (72, false)⟩,
  ⟨some 75, .mv (.t 9), some (72, false)⟩,
  ⟨some 76, .bin .geq [] (.t 75) (.c (.int .i64 3)), some (72, false)⟩,
  ⟨some 77, .bin .neq [1] (.t 74) (.t 76), some (72, false)⟩,
  ⟨some 78, .pick (.t 72) (.c (.bool true)) (.t 77), none⟩,
  ⟨some 79, .mv (.t 78), none⟩,
  ⟨some 80, .mv (.t 15), some (79, false)⟩,
  ⟨some 81, .bin .neq [] (.t 80) (.c (.int .i64 0)), some (79, false)⟩,
  ⟨some 82, .mv (.t 81), some (79, false)⟩,
  ⟨some 83, .mv (.t 15), some (82, true)⟩,
  ⟨some 84, .bin .neq [] (.t 83) (.c (.int .i64 35)), some (82, true)⟩,
  ⟨some 85, .pick (.t 82) (.t 84) (.c (.bool false)), some (79, false)⟩,
  ⟨some 86, .pick (.t 79) (.c (.bool true)) (.t 85), none⟩])
 (.cond (.t 86)
 (.seq (.reg [⟨some 6, .mv (.c (.bool false)), none⟩])
 (.ret))
 (.skip)))
 (.seq (.reg [⟨some 87, .mv (.t 7), none⟩,
  ⟨some 88, .call 41 [(.t 87)], none⟩,
  ⟨some 16, .mv (.t 88), none⟩])
 (.seq (.seq (.reg [⟨some 89, .mv (.t 15), none⟩,
  ⟨some 90, .bin .eql [] (.t 89) (.c (.int .i64 35)), none⟩])
 (.cond (.t 90)
 (.seq (.seq (.reg [⟨some 91, .mv (.t 16), none⟩,
  ⟨some 92, .len none (.t 91), none⟩,
  ⟨some 93, .mv (.t 14), none⟩,
  ⟨some 94, .len none (.t 93), none⟩,
  ⟨some 95, .bin .neq [] (.t 92) (.t 94), none⟩])
 (.cond (.t 95)
 (.seq (.reg [⟨some 6, .mv (.c (.bool false)), none⟩])
 (.ret))
 (.skip)))
 (.seq (.reg [⟨some 17, .mv (.c (.int .i64 0)), none⟩])
 (.block 2 [2, 7, 12, 13, 15]
 (.loop [2, 7, 12, 13, 14, 15, 16, 17]
 (.seq (.seq (.reg [⟨some 96, .mv (.t 17), none⟩,
  ⟨some 97, .mv (.t 16), none⟩,
  ⟨some 98, .len none (.t 97), none⟩,
  ⟨some 99, .bin .lss [] (.t 96) (.t 98), none⟩])
 (.cond (.t 99)
 (.skip)
 (.exit 2)))
 (.seq (.block 3 [2, 7, 12, 13, 14, 15, 16, 17]
 (.seq (.regd [(0, ⟨some 102, .mv (.t 16), none⟩),
  (1, ⟨some 103, .mv (.t 17), none⟩),
  (2, ⟨some 104, .ia none 3 (.t 102) (.t 103), none⟩),
  (3, ⟨some 105, .ld (some 3) (.t 104), none⟩),
  (4, ⟨some 106, .mv (.t 14), none⟩),
  (5, ⟨some 107, .mv (.t 17), none⟩),
  (6, ⟨some 108, .ia none 3 (.t 106) (.t 107), none⟩),
  (7, ⟨some 109, .ld (some 3) (.t 108), none⟩),
  (8, ⟨some 110, .bin .neq [5, 0, 0, 0] (.t 105) (.t 109), none⟩)] [])
 (.cond (.t 110)
 (.seq (.reg [⟨some 6, .mv (.c (.bool false)), none⟩])
 (.ret))
 (.skip))))
 (.reg [⟨some 100, .mv (.t 17), none⟩,
  ⟨some 101, .bin .add [] (.t 100) (.c (.int .i64 1)), none⟩,
  ⟨some 17, .mv (.t 101), none⟩])))))))
 (.skip)))
 (.seq (.reg [⟨some 111, .mv (.t 12), none⟩,
  ⟨some 112, .bin .add [] (.t 111) (.c (.int .i64 1)), none⟩,
  ⟨some 113, .mv (.t 12), none⟩,
  ⟨some 114, .bin .add [] (.c (.int .i64 1125899906842624)) (.t 113), none⟩,
  ⟨some 115, .bin .add [] (.t 114) (.c (.int .i64 1)), none⟩,
  ⟨some 116, .mv (.t 12), none⟩,
  ⟨some 117, .bin .add [] (.c (.int .i64 1125899906842624)) (.t 116), none⟩,
  ⟨some 118, .bin .add [] (.t 117) (.c (.int .i64 11)), none⟩,
  ⟨some 119, .bld [(.int .i64 0), (.int .i64 0), (.int .i64 0)] [(0, 1, (.t 112)), (1, 1, (.t 115)), (2, 1, (.t 118))], none⟩,
  ⟨some 18, .al (.ints .i64 [0, 0, 0]), none⟩,
  ⟨none, .st 3 (.t 18) (.t 119), none⟩])
 (.seq (.seq (.reg [⟨some 120, .mv (.t 2), none⟩])
 (.cond (.t 120)
 (.reg [⟨some 121, .fa 1 (.t 18), none⟩,
  ⟨some 122, .ld none (.t 121), none⟩,
  ⟨some 123, .mv (.t 13), none⟩,
  ⟨some 124, .bin .add [] (.t 122) (.t 123), none⟩,
  ⟨some 125, .fa 2 (.t 18), none⟩,
  ⟨some 126, .ld none (.t 125), none⟩,
  ⟨some 127, .mv (.t 13), none⟩,
  ⟨some 128, .bin .add [] (.t 126) (.t 127), none⟩,
  ⟨some 129, .fa 1 (.t 18), none⟩,
  ⟨none, .st 1 (.t 129) (.t 124), none⟩,
  ⟨some 130, .fa 2 (.t 18), none⟩,
  ⟨none, .st 1 (.t 130) (.t 128), none⟩])
 (.skip)))
 (.seq (.reg [⟨some 131, .mv (.t 7), none⟩,
  ⟨some 132, .ld (some 3) (.t 18), none⟩,
  ⟨some 133, .call 34 [(.t 131), (.t 132)], none⟩,
  ⟨some 19, .mv (.t 133), none⟩])
 (.seq (.seq (.regd [(0, ⟨some 134, .mv (.t 15), none⟩),
  (1, ⟨some 135, .bin .eql [] (.t 134) (.c (.int .i64 35)), none⟩),
  (2, ⟨some 136, .mv (.t 135), none⟩),
  (3, ⟨some 137, .mv (.t 19), some (136, true)⟩),
  (4, ⟨some 138, .bin .neq [] (.t 137) (.c (.int .i64 0)), some (136, true)⟩),
  (5, ⟨some 139, .mv (.t 138), some (136, true)⟩),
  (6, ⟨some 140, .mv (.t 7), some (139, false)⟩),
  (7, ⟨some 141, .call 42 [(.t 140)], some (139, false)⟩),
  (8, ⟨some 142, .pick (.t 139) (.c (.bool true)) (.t 141), some (136, true)⟩),
  (9, ⟨some 143, .mv (.t 142), some (136, true)⟩),
  (10, ⟨some 144, .mv (.t 7), some (143, false)⟩),
  (11, ⟨some 145, .call 41 [(.t 144)], some (143, false)⟩),
  (12, ⟨some 146, .ia none 3 (.t 145) (.c (.int .i64 0)), some (143, false)⟩),
  (13, ⟨some 147, .ld (some 3) (.t 146), some (143, false)⟩),
  (14, ⟨some 148, .ld (some 3) (.t 18), some (143, false)⟩),
  (15, ⟨some 149, .bin .neq [5, 0, 0, 0] (.t 147) (.t 148), some (143, false)⟩),
  (16, ⟨some 150, .pick (.t 143) (.c (.bool true)) (.t 149), some (136, true)⟩),
  (17, ⟨some 151, .pick (.t 136) (.t 150) (.c (.bool false)), none⟩)] [(14, 11)])
 (.cond (.t 151)
 (.seq (.reg [⟨some 6, .mv (.c (.bool false)), none⟩])
 (.ret))
 (.skip)))
 (.seq (.reg [⟨some 152, .call 40 [], none⟩,
  ⟨some 6, .mv (.t 152), none⟩])
 (.ret))))))))))))))))),
 [.tmp 6], true⟩
/-- ephemeris/ephemerislaw20.FilterMoves -/
def M10 : MFunc := ⟨.seq (.reg [⟨some 8, .mv (.c (.bool false)), none⟩])
 (.seq (.reg [⟨some 23, .call 33 [(.c (.int .i64 1000)), (.c (.int .i64 15000))], none⟩,
  ⟨some 22, .mv (.t 23), none⟩,
  ⟨some 24, .ex 0 (.t 22), none⟩,
  ⟨some 25, .ex 1 (.t 22), none⟩,
  ⟨some 9, .mv (.t 24), none⟩,
  ⟨some 10, .mv (.t 25), none⟩])
 (.seq (.reg [⟨some 27, .call 33 [(.c (.int .i64 1000)), (.c (.int .i64 15000))], none⟩,
  ⟨some 26, .mv (.t 27), none⟩,
  ⟨some 28, .ex 0 (.t 26), none⟩,
  ⟨some 29, .ex 1 (.t 26), none⟩,
  ⟨some 11, .mv (.t 28), none⟩,
  ⟨some 12, .mv (.t 29), none⟩])
 (.seq (.seq (.reg [⟨some 30, .mv (.t 10), none⟩,
  ⟨some 31, .bin .neq [] (.t 30) (.c (.int .i64 0)), none⟩,
  ⟨some 32, .mv (.t 31), none⟩,
  ⟨some 33, .mv (.t 12), some (32, false)⟩,
  ⟨some 34, .bin .neq [] (.t 33) (.c (.int .i64 0)), some (32, false)⟩,
  ⟨some 35, .pick (.t 32) (.c (.bool true)) (.t 34), none⟩])
 (.cond (.t 35)
 (.seq (.reg [⟨some 8, .mv (.c (.bool false)), none⟩])
 (.ret))
 (.skip)))
 (.seq (.reg [⟨some 36, .mv (.t 3), none⟩,
  ⟨some 37, .bin .rem [] (.t 36) (.c (.int .u64 1125899906842624)), none⟩,
  ⟨some 38, .ci .i64 (.t 37), none⟩,
  ⟨some 13, .mv (.c (.int .i64 0)), none⟩,
  ⟨some 14, .mv (.t 38), none⟩])
 (.seq (.seq (.reg [⟨some 15, .mv (.c (.int .i64 0)), none⟩])
 (.block 0 []
 (.loop [0, 1, 2, 9, 11, 13, 14, 15]
 (.seq (.seq (.reg [⟨some 39, .mv (.t 15), none⟩,
  ⟨some 40, .mv (.t 0), none⟩,
  ⟨some 41, .len none (.t 40), none⟩,
  ⟨some 42, .bin .lss [] (.t 39) (.t 41), none⟩,
  ⟨some 43, .mv (.t 42), none⟩,
  ⟨some 44, .mv (.t 15), some (43, true)⟩,
  ⟨some 45, .mv (.t 1), some (43, true)⟩,
  ⟨some 46, .len none (.t 45), some (43, true)⟩,
  ⟨some 47, .bin .lss [] (.t 44) (.t 46), some (43, true)⟩,
  ⟨some 48, .pick (.t 43) (.t 47) (.c (.bool false)), none⟩,
  ⟨some 49, .mv (.t 48), none⟩,
  ⟨some 50, .mv (.t 15), some (49, true)⟩,
  ⟨some 51, .mv (.t 2), some (49, true)⟩,
  ⟨some 52, .len none (.t 51), some (49, true)⟩,
  ⟨some 53, .bin .lss [] (.t 50) (.t 52), some (49, true)⟩,
  ⟨some 54, .pick (.t 49) (.t 53) (.c (.bool false)), none⟩,
  ⟨some 55, .mv (.t 54), none⟩,
  ⟨some 56, .mv (.t 15), some (55, true)⟩,
  ⟨some 57, .bin .lss [] (.t 56) (.c (.int .i64 30)), some (55, true)⟩,
  ⟨some 58, .pick (.t 55) (.t 57) (.c (.bool false)), none⟩])
 (.cond (.t 58)
 (.skip)
 (.exit 0)))
 (.seq (.block 1 [0, 1, 2, 9, 11, 13, 14, 15]
 (.seq (.reg [⟨some 61, .mv (.t 13), none⟩,
  ⟨some 62, .mv (.t 0), none⟩,
  ⟨some 63, .mv (.t 15), none⟩,
  ⟨some 64, .ia none 1 (.t 62) (.t 63), none⟩,
  ⟨some 65, .ld none (.t 64), none⟩,
  ⟨some 66, .ci .i64 (.t 65), none⟩,
  ⟨some 67, .bin .add [] (.t 61) (.t 66), none⟩,
  ⟨some 13, .mv (.t 67), none⟩])
 (.seq (.reg [⟨some 68, .mv (.t 13), none⟩,
  ⟨some 69, .mv (.t 13), none⟩,
  ⟨some 70, .mv (.t 1), none⟩,
  ⟨some 71, .mv (.t 15), none⟩,
  ⟨some 72, .ia none 1 (.t 70) (.t 71), none⟩,
  ⟨some 73, .ld none (.t 72), none⟩,
  ⟨some 74, .ci .i64 (.t 73), none⟩,
  ⟨some 75, .bin .add [] (.t 69) (.t 74), none⟩,
  ⟨some 76, .bld [(.int .i64 0), (.int .i64 0), (.int .i64 0)] [(0, 1, (.t 68)), (1, 1, (.t 75))], none⟩,
  ⟨some 16, .al (.ints .i64 [0, 0, 0]), none⟩,
  ⟨none, .st 3 (.t 16) (.t 76), none⟩])
 (.seq (.regd [(0, ⟨some 77, .fa 1 (.t 16), none⟩),
  (1, ⟨some 78, .ld none (.t 77), none⟩),
  (2, ⟨some 79, .mv (.t 2), none⟩),
  (3, ⟨some 80, .mv (.t 15), none⟩),
  (4, ⟨some 81, .ia none 1 (.t 79) (.t 80), none⟩),
  (5, ⟨some 82, .ld none (.t 81), none⟩),
  (6, ⟨some 83, .bin .rem [] (.t 82) (.c (.int .u32 1048576)), none⟩),
  (7, ⟨some 84, .ci .i64 (.t 83), none⟩),
  (8, ⟨some 85, .bin .add [] (.t 78) (.t 84), none⟩),
  (9, ⟨some 86, .fa 2 (.t 16), none⟩),
  (10, ⟨none, .st 1 (.t 86) (.t 85), none⟩)] [])
 (.seq (.reg [⟨some 87, .fa 0 (.t 16), none⟩,
  ⟨some 88, .ld none (.t 87), none⟩,
  ⟨some 89, .fa 1 (.t 16), none⟩,
  ⟨some 90, .ld none (.t 89), none⟩,
  ⟨some 91, .mv (.t 14), none⟩,
  ⟨some 92, .bin .add [] (.t 90) (.t 91), none⟩,
  ⟨some 93, .fa 2 (.t 16), none⟩,
  ⟨some 94, .ld none (.t 93), none⟩,
  ⟨some 95, .mv (.t 14), none⟩,
  ⟨some 96, .bin .add [] (.t 94) (.t 95), none⟩,
  ⟨some 97, .bld [(.int .i64 0), (.int .i64 0), (.int .i64 0)] [(0, 1, (.t 88)), (1, 1, (.t 92)), (2, 1, (.t 96))], none⟩,
  ⟨some 17, .al (.ints .i64 [0, 0, 0]), none⟩,
  ⟨none, .st 3 (.t 17) (.t 97), none⟩])
 (.seq (.seq (.regd [(0, ⟨some 98, .mv (.t 9), none⟩),
  (1, ⟨some 99, .ld (some 3) (.t 16), none⟩),
  (2, ⟨some 100, .call 34 [(.t 98), (.t 99)], none⟩),
  (3, ⟨some 101, .mv (.t 11), none⟩),
  (4, ⟨some 102, .ld (some 3) (.t 17), none⟩),
  (5, ⟨some 103, .call 34 [(.t 101), (.t 102)], none⟩),
  (6, ⟨some 104, .bin .neq [] (.t 100) (.t 103), none⟩),
  (7, ⟨some 105, .mv (.t 104), none⟩),
  (8, ⟨some 106, .mv (.t 9), some (105, false)⟩),
  (9, ⟨some 107, .call 42 [(.t 106)], some (105, false)⟩),
  (10, ⟨some 108, .mv (.t 11), some (105, false)⟩),
  (11, ⟨some 109, .call 42 [(.t 108)], some (105, false)⟩),
  (12, ⟨some 110, .bin .neq [1] (.t 107) (.t 109), some (105, false)⟩),
  (13, ⟨some 111, .pick (.t 105) (.c (.bool true)) (.t 110), none⟩)] [(4, 2)])
 (.cond (.t 111)
 (.seq (.reg [⟨some 8, .mv (.c (.bool false)), none⟩])
 (.ret))
 (.skip)))
 (.seq (.reg [⟨some 113, .mv (.t 9), none⟩,
  ⟨some 114, .mv (.t 13), none⟩,
  ⟨some 115, .call 39 [(.t 113), (.t 114)], none⟩,
  ⟨some 112, .mv (.t 115), none⟩,
  ⟨some 116, .ex 0 (.t 112), none⟩,
  ⟨some 117, .ex 1 (.t 112), none⟩,
  ⟨some 18, .al (.ints .i64 [0, 0, 0]), none⟩,
  ⟨none, .st 3 (.t 18) (.t 116), none⟩,
  ⟨some 19, .mv (.t 117), none⟩])
 (.seq (.reg [⟨some 119, .mv (.t 11), none⟩,
  ⟨some 120, .mv (.t 13), none⟩,
  ⟨some 121, .call 39 [(.t 119), (.t 120)], none⟩,
  ⟨some 118, .mv (.t 121), none⟩,
  ⟨some 122, .ex 0 (.t 118), none⟩,
  ⟨some 123, .ex 1 (.t 118), none⟩,
  ⟨some 20, .al (.ints .i64 [0, 0, 0]), none⟩,
  ⟨none, .st 3 (.t 20) (.t 122), none⟩,
  ⟨some 21, .mv (.t 123), none⟩])
 (.seq (.reg [⟨some 124, .mv (.t 19), none⟩,
  ⟨some 125, .mv (.t 21), none⟩,
  ⟨some 126, .bin .neq [1] (.t 124) (.t 125), none⟩,
  ⟨some 127, .mv (.t 126), none⟩,
  ⟨some 128, .mv (.t 19), some (127, false)⟩,
  ⟨some 129, .mv (.t 128), some (127, false)⟩,
  ⟨some 130, .fa 1 (.t 20), some (129, true)⟩,
  ⟨some 131, .ld none (.t 130), some (129, true)⟩,
  ⟨some 132, .fa 1 (.t 18), some (129, true)⟩,
  ⟨some 133, .ld none (.t 132), some (129, true)⟩,
  ⟨some 134, .mv (.t 14), some (129, true)⟩,
  ⟨some 135, .bin .add [] (.t 133) (.t 134), some (129, true)⟩,
  ⟨some 136, .bin .neq [] (.t 131) (.t 135), some (129, true)⟩,
  ⟨some 137, .mv (.t 136), some (129, true)⟩,
  ⟨some 138, .fa 2 (.t 20), some (137, false)⟩,
  ⟨some 139, .ld none (.t 138), some (137, false)⟩,
  ⟨some 140, .fa 2 (.t 18), some (137, false)⟩,
  ⟨some 141, .ld none (.t 140), some (137, false)⟩,
  ⟨some 142, .mv (.t 14), some (137, false)⟩,
  ⟨some 143, .bin .add [] (.t 141) (.t 142), some (137, false)⟩,
  ⟨some 144, .bin .neq [] (.t 139) (.t 143), some (137, false)⟩,
  ⟨some 145, .pick (.t 137) (.c (.bool true)) (.t 144), some (129, true)⟩,
  ⟨some 146, .mv (.t 145), some (129, true)⟩,
  ⟨some 147, .fa 0 (.t 20), some (146, false)⟩,
  ⟨some 148, .ld none (.t 147), some (146, false)⟩,
  ⟨some 149, .fa 0 (.t 18), some (146, false)⟩,
  ⟨some 150, .ld none (.t 149), some (146, false)⟩,
  ⟨some 151, .bin .neq [] (.t 148) (.t 150), some (146, false)⟩,
  ⟨some 152, .pick (.t 146) (.c (.bool true)) (.t 151), some (129, true)⟩,
  ⟨some 153, .pick (.t 129) (.t 152) (.c (.bool false)), some (127, false)⟩,
  ⟨some 154, .pick (.t 127) (.c (.bool true)) (.t 153), none⟩,
  ⟨some 155, .mv (.t 154), none⟩,
  ⟨some 156, .mv (.t 9), some (155, false)⟩,
  ⟨some 157, .mv (.t 13), some (155, false)⟩,
  ⟨some 158, .call 43 [(.t 156), (.t 157)], some (155, false)⟩,
  ⟨some 159, .mv (.t 11), some (155, false)⟩,
  ⟨some 160, .mv (.t 13), some (155, false)⟩,
  ⟨some 161, .call 43 [(.t 159), (.t 160)], some (155, false)⟩,
  ⟨some 162, .bin .neq [] (.t 158) (.t 161), some (155, false)⟩,
  ⟨some 163, .pick (.t 155) (.c (.bool true)) (.t 162), none⟩])
 (.cond (.t 163)
 (.seq (.reg [⟨some 8, .mv (.c (.bool false)), none⟩])
 (.ret))
 (.skip)))))))))))
 (.reg [⟨some 59, .mv (.t 15), none⟩,
  ⟨some 60, .bin .add [] (.t 59) (.c (.int .i64 1)), none⟩,
  ⟨some 15, .mv (.t 60), none⟩]))))))
 (.seq (.reg [⟨some 164, .call 40 [], none⟩,
  ⟨some 8, .mv (.t 164), none⟩])
 (.ret))))))),
 [.tmp 8], true⟩
/-- ephemeris/ephemerislaw20.FilterTells -/
def M11 : MFunc := ⟨.seq (.reg [⟨some 6, .mv (.c (.bool false)), none⟩])
 (.seq (.reg [⟨some 26, .mv (.t 0), none⟩,
  ⟨some 27, .mv (.t 1), none⟩,
  ⟨some 28, .call 33 [(.t 26), (.t 27)], none⟩,
  ⟨some 25, .mv (.t 28), none⟩,
  ⟨some 29, .ex 0 (.t 25), none⟩,
  ⟨some 30, .ex 1 (.t 25), none⟩,
  ⟨some 7, .mv (.t 29), none⟩,
  ⟨some 8, .mv (.t 30), none⟩])
 (.seq (.reg [⟨some 32, .mv (.t 0), none⟩,
  ⟨some 33, .mv (.t 1), none⟩,
  ⟨some 34, .call 44 [(.t 32), (.t 33)], none⟩,
  ⟨some 31, .mv (.t 34), none⟩,
  ⟨some 35, .ex 0 (.t 31), none⟩,
  ⟨some 36, .ex 1 (.t 31), none⟩,
  ⟨some 9, .mv (.t 35), none⟩,
  ⟨some 10, .mv (.t 36), none⟩])
 (.seq (.seq (.reg [⟨some 37, .mv (.t 8), none⟩,
  ⟨some 38, .mv (.t 10), none⟩,
  ⟨some 39, .bin .neq [] (.t 37) (.t 38), none⟩,
  ⟨some 40, .mv (.t 39), none⟩,
  ⟨some 41, .mv (.t 8), some (40, false)⟩,
  ⟨some 42, .bin .eql [] (.t 41) (.c (.int .i64 0)), some (40, false)⟩,
  ⟨some 43, .mv (.t 7), some (40, false)⟩,
  ⟨some 44, .bin .neq [2] (.t 43) (.c .nilp), some (40, false)⟩,
  ⟨some 45, .bin .neq [1] (.t 42) (.t 44), some (40, false)⟩,
  ⟨some 46, .pick (.t 40) (.c (.bool true)) (.t 45), none⟩])
 (.cond (.t 46)
 (.seq (.reg [⟨some 6, .mv (.c (.bool false)), none⟩])
 (.ret))
 (.skip)))
 (.seq (.seq (.reg [⟨some 47, .mv (.t 8), none⟩,
  ⟨some 48, .bin .neq [] (.t 47) (.c (.int .i64 0)), none⟩])
 (.cond (.t 48)
 (.seq (.reg [⟨some 49, .call 40 [], none⟩,
  ⟨some 6, .mv (.t 49), none⟩])
 (.ret))
 (.skip)))
 (.seq (.seq (.reg [⟨some 11, .mv (.c (.int .i64 0)), none⟩])
 (.block 0 []
 (.loop [2, 7, 9, 11]
 (.seq (.seq (.reg [⟨some 50, .mv (.t 11), none⟩,
  ⟨some 51, .mv (.t 2), none⟩,
  ⟨some 52, .len none (.t 51), none⟩,
  ⟨some 53, .bin .lss [] (.t 50) (.t 52), none⟩,
  ⟨some 54, .mv (.t 53), none⟩,
  ⟨some 55, .mv (.t 11), some (54, true)⟩,
  ⟨some 56, .bin .lss [] (.t 55) (.c (.int .i64 60)), some (54, true)⟩,
  ⟨some 57, .pick (.t 54) (.t 56) (.c (.bool false)), none⟩])
 (.cond (.t 57)
 (.skip)
 (.exit 0)))
 (.seq (.block 1 [2, 7, 9, 11]
 (.seq (.reg [⟨some 60, .mv (.t 2), none⟩,
  ⟨some 61, .mv (.t 11), none⟩,
  ⟨some 62, .ia none 5 (.t 60) (.t 61), none⟩,
  ⟨some 63, .ld (some 5) (.t 62), none⟩,
  ⟨some 12, .al (.ints .i64 [0, 0, 0, 0, 0]), none⟩,
  ⟨none, .st 5 (.t 12) (.t 63), none⟩])
 (.seq (.reg [⟨some 13, .mv (.c (.bool true)), none⟩])
 (.seq (.seq (.reg [⟨some 64, .fa 0 (.t 12), none⟩,
  ⟨some 65, .ld none (.t 64), none⟩])
 (.block 2 [2, 7, 9, 11, 12, 13]
 (.seq (.seq (.reg [⟨some 67, .bin .eql [] (.t 65) (.c (.int .i64 0)), none⟩,
  ⟨some 66, .mv (.t 67), none⟩])
 (.cond (.t 66)
 (.skip)
 (.seq (.reg [⟨some 68, .bin .eql [] (.t 65) (.c (.int .i64 1)), none⟩,
  ⟨some 66, .mv (.t 68), none⟩])
 (.cond (.t 66)
 (.skip)
 (.reg [⟨some 69, .bin .eql [] (.t 65) (.c (.int .i64 2)), none⟩,
  ⟨some 66, .mv (.t 69), none⟩])))))
 (.cond (.t 66)
 (.regd [(0, ⟨some 70, .mv (.t 7), none⟩),
  (1, ⟨some 71, .fa 1 (.t 12), none⟩),
  (2, ⟨some 72, .ld (some 3) (.t 71), none⟩),
  (3, ⟨some 73, .call 34 [(.t 70), (.t 72)], none⟩),
  (4, ⟨some 74, .mv (.t 9), none⟩),
  (5, ⟨some 75, .fa 1 (.t 12), none⟩),
  (6, ⟨some 76, .ld (some 3) (.t 75), none⟩),
  (7, ⟨some 77, .call 45 [(.t 74), (.t 76)], none⟩),
  (8, ⟨some 78, .bin .eql [] (.t 73) (.t 77), none⟩),
  (9, ⟨some 13, .mv (.t 78), none⟩)] [(6, 3)])
 (.seq (.reg [⟨some 80, .bin .eql [] (.t 65) (.c (.int .i64 3)), none⟩,
  ⟨some 79, .mv (.t 80), none⟩])
 (.cond (.t 79)
 (.seq (.reg [⟨some 82, .mv (.t 7), none⟩,
  ⟨some 83, .fa 4 (.t 12), none⟩,
  ⟨some 84, .ld none (.t 83), none⟩,
  ⟨some 85, .call 39 [(.t 82), (.t 84)], none⟩,
  ⟨some 81, .mv (.t 85), none⟩,
  ⟨some 86, .ex 0 (.t 81), none⟩,
  ⟨some 87, .ex 1 (.t 81), none⟩,
  ⟨some 14, .al (.ints .i64 [0, 0, 0]), none⟩,
  ⟨none, .st 3 (.t 14) (.t 86), none⟩,
  ⟨some 15, .mv (.t 87), none⟩])
 (.seq (.reg [⟨some 89, .mv (.t 9), none⟩,
  ⟨some 90, .fa 4 (.t 12), none⟩,
  ⟨some 91, .ld none (.t 90), none⟩,
  ⟨some 92, .call 46 [(.t 89), (.t 91)], none⟩,
  ⟨some 88, .mv (.t 92), none⟩,
  ⟨some 93, .ex 0 (.t 88), none⟩,
  ⟨some 94, .ex 1 (.t 88), none⟩,
  ⟨some 16, .al (.ints .i64 [0, 0, 0]), none⟩,
  ⟨none, .st 3 (.t 16) (.t 93), none⟩,
  ⟨some 17, .mv (.t 94), none⟩])
 (.reg [⟨some 95, .ld (some 3) (.t 14), none⟩,
  ⟨some 96, .ld (some 3) (.t 16), none⟩,
  ⟨some 97, .bin .eql [5, 0, 0, 0] (.t 95) (.t 96), none⟩,
  ⟨some 98, .mv (.t 97), none⟩,
  ⟨some 99, .mv (.t 15), some (98, true)⟩,
  ⟨some 100, .mv (.t 17), some (98, true)⟩,
  ⟨some 101, .bin .eql [1] (.t 99) (.t 100), some (98, true)⟩,
  ⟨some 102, .pick (.t 98) (.t 101) (.c (.bool false)), none⟩,
  ⟨some 13, .mv (.t 102), none⟩])))
 (.seq (.seq (.reg [⟨some 104, .bin .eql [] (.t 65) (.c (.int .i64 4)), none⟩,
  ⟨some 103, .mv (.t 104), none⟩])
 (.cond (.t 103)
 (.skip)
 (.reg [⟨some 105, .bin .eql [] (.t 65) (.c (.int .i64 5)), none⟩,
  ⟨some 103, .mv (.t 105), none⟩])))
 (.cond (.t 103)
 (.seq (.reg [⟨some 106, .mv (.t 7), none⟩,
  ⟨some 18, .mv (.t 106), none⟩])
 (.seq (.seq (.reg [⟨some 107, .fa 0 (.t 12), none⟩,
  ⟨some 108, .ld none (.t 107), none⟩,
  ⟨some 109, .bin .eql [] (.t 108) (.c (.int .i64 4)), none⟩])
 (.cond (.t 109)
 (.reg [⟨some 110, .mv (.t 7), none⟩,
  ⟨some 111, .call 47 [(.t 110)], none⟩,
  ⟨some 7, .mv (.t 111), none⟩])
 (.reg [⟨some 112, .mv (.t 7), none⟩,
  ⟨some 113, .call 47 [(.t 112)], none⟩,
  ⟨some 18, .mv (.t 113), none⟩])))
 (.seq (.reg [⟨some 114, .mv (.t 18), none⟩,
  ⟨some 115, .bld [(.int .i64 0), (.int .i64 0), (.int .i64 0)] [(0, 1, (.c (.int .i64 4611686018427387904))), (2, 1, (.c (.int .i64 1)))], none⟩,
  ⟨some 116, .call 34 [(.t 114), (.t 115)], none⟩])
 (.reg [⟨some 117, .mv (.t 18), none⟩,
  ⟨some 118, .call 39 [(.t 117), (.c (.int .i64 4611686018427387904))], none⟩]))))
 (.skip)))))))))
 (.seq (.reg [⟨some 120, .mv (.t 7), none⟩,
  ⟨some 121, .fa 4 (.t 12), none⟩,
  ⟨some 122, .ld none (.t 121), none⟩,
  ⟨some 123, .call 35 [(.t 120), (.t 122)], none⟩,
  ⟨some 119, .mv (.t 123), none⟩,
  ⟨some 124, .ex 0 (.t 119), none⟩,
  ⟨some 125, .ex 1 (.t 119), none⟩,
  ⟨some 19, .al (.ints .i64 [0, 0, 0]), none⟩,
  ⟨none, .st 3 (.t 19) (.t 124), none⟩,
  ⟨some 20, .mv (.t 125), none⟩])
 (.seq (.reg [⟨some 127, .mv (.t 9), none⟩,
  ⟨some 128, .fa 4 (.t 12), none⟩,
  ⟨some 129, .ld none (.t 128), none⟩,
  ⟨some 130, .call 48 [(.t 127), (.t 129)], none⟩,
  ⟨some 126, .mv (.t 130), none⟩,
  ⟨some 131, .ex 0 (.t 126), none⟩,
  ⟨some 132, .ex 1 (.t 126), none⟩,
  ⟨some 21, .al (.ints .i64 [0, 0, 0]), none⟩,
  ⟨none, .st 3 (.t 21) (.t 131), none⟩,
  ⟨some 22, .mv (.t 132), none⟩])
 (.seq (.reg [⟨some 133, .mv (.t 7), none⟩,
  ⟨some 134, .call 41 [(.t 133)], none⟩,
  ⟨some 23, .mv (.t 134), none⟩])
 (.seq (.seq (.regd [(0, ⟨some 135, .mv (.t 13), none⟩),
  (1, ⟨some 136, .un .not (.t 135), none⟩),
  (2, ⟨some 137, .mv (.t 136), none⟩),
  (3, ⟨some 138, .mv (.t 20), some (137, false)⟩),
  (4, ⟨some 139, .mv (.t 22), some (137, false)⟩),
  (5, ⟨some 140, .bin .geq [] (.t 139) (.c (.int .i64 0)), some (137, false)⟩),
  (6, ⟨some 141, .bin .neq [1] (.t 138) (.t 140), some (137, false)⟩),
  (7, ⟨some 142, .pick (.t 137) (.c (.bool true)) (.t 141), none⟩),
  (8, ⟨some 143, .mv (.t 142), none⟩),
  (9, ⟨some 144, .ld (some 3) (.t 19), some (143, false)⟩),
  (10, ⟨some 145, .ld (some 3) (.t 21), some (143, false)⟩),
  (11, ⟨some 146, .bin .neq [5, 0, 0, 0] (.t 144) (.t 145), some (143, false)⟩),
  (12, ⟨some 147, .pick (.t 143) (.c (.bool true)) (.t 146), none⟩),
  (13, ⟨some 148, .mv (.t 147), none⟩),
  (14, ⟨some 149, .mv (.t 7), some (148, false)⟩),
  (15, ⟨some 150, .fa 4 (.t 12), some (148, false)⟩),
  (16, ⟨some 151, .ld none (.t 150), some (148, false)⟩),
  (17, ⟨some 152, .call 43 [(.t 149), (.t 151)], some (148, false)⟩),
  (18, ⟨some 153, .mv (.t 9), some (148, false)⟩),
  (19, ⟨some 154, .fa 4 (.t 12), some (148, false)⟩),
  (20, ⟨some 155, .ld none (.t 154), some (148, false)⟩),
  (21, ⟨some 156, .call 49 [(.t 153), (.t 155)], some (148, false)⟩),
  (22, ⟨some 157, .bin .neq [] (.t 152) (.t 156), some (148, false)⟩),
  (23, ⟨some 158, .pick (.t 148) (.c (.bool true)) (.t 157), none⟩),
  (24, ⟨some 159, .mv (.t 158), none⟩),
  (25, ⟨some 160, .mv (.t 7), some (159, false)⟩),
  (26, ⟨some 161, .call 42 [(.t 160)], some (159, false)⟩),
  (27, ⟨some 162, .mv (.t 9), some (159, false)⟩),
  (28, ⟨some 163, .nc (.t 162), some (159, false)⟩),
  (29, ⟨some 164, .fa 3 (.t 163), some (159, false)⟩),
  (30, ⟨some 165, .ld none (.t 164), some (159, false)⟩),
  (31, ⟨some 166, .bin .neq [1] (.t 161) (.t 165), some (159, false)⟩),
  (32, ⟨some 167, .pick (.t 159) (.c (.bool true)) (.t 166), none⟩),
  (33, ⟨some 168, .mv (.t 167), none⟩),
  (34, ⟨some 169, .mv (.t 23), some (168, false)⟩),
  (35, ⟨some 170, .len none (.t 169), some (168, false)⟩),
  (36, ⟨some 171, .mv (.t 9), some (168, false)⟩),
  (37, ⟨some 172, .nc (.t 171), some (168, false)⟩),
  (38, ⟨some 173, .fa 1 (.t 172), some (168, false)⟩),
  (39, ⟨some 174, .ld none (.t 173), some (168, false)⟩),
  (40, ⟨some 175, .len none (.t 174), some (168, false)⟩),
  (41, ⟨some 176, .bin .neq [] (.t 170) (.t 175), some (168, false)⟩),
  (42, ⟨some 177, .pick (.t 168) (.c (.bool true)) (.t 176), none⟩)] [(20, 17), (30, 26)])
 (.cond (.t 177)
 (.seq (.reg [⟨some 6, .mv (.c (.bool false)), none⟩])
 (.ret))
 (.skip)))
 (.seq (.reg [⟨some 24, .mv (.c (.int .i64 0)), none⟩])
 (.block 3 [2, 7, 9, 11]
 (.loop [2, 7, 9, 11, 23, 24]
 (.seq (.seq (.reg [⟨some 178, .mv (.t 24), none⟩,
  ⟨some 179, .mv (.t 23), none⟩,
  ⟨some 180, .len none (.t 179), none⟩,
  ⟨some 181, .bin .lss [] (.t 178) (.t 180), none⟩])
 (.cond (.t 181)
 (.skip)
 (.exit 3)))
 (.seq (.block 4 [2, 7, 9, 11, 23, 24]
 (.seq (.seq (.regd [(0, ⟨some 184, .mv (.t 23), none⟩),
  (1, ⟨some 185, .mv (.t 24), none⟩),
  (2, ⟨some 186, .ia none 3 (.t 184) (.t 185), none⟩),
  (3, ⟨some 187, .ld (some 3) (.t 186), none⟩),
  (4, ⟨some 188, .mv (.t 9), none⟩),
  (5, ⟨some 189, .nc (.t 188), none⟩),
  (6, ⟨some 190, .fa 1 (.t 189), none⟩),
  (7, ⟨some 191, .ld none (.t 190), none⟩),
  (8, ⟨some 192, .mv (.t 9), none⟩),
  (9, ⟨some 193, .nc (.t 192), none⟩),
  (10, ⟨some 194, .fa 1 (.t 193), none⟩),
  (11, ⟨some 195, .ld none (.t 194), none⟩),
  (12, ⟨some 196, .len none (.t 195), none⟩),
  (13, ⟨some 197, .bin .sub [] (.t 196) (.c (.int .i64 1)), none⟩),
  (14, ⟨some 198, .mv (.t 24), none⟩),
  (15, ⟨some 199, .bin .sub [] (.t 197) (.t 198), none⟩),
  (16, ⟨some 200, .ia none 3 (.t 191) (.t 199), none⟩),
  (17, ⟨some 201, .ld (some 3) (.t 200), none⟩),
  (18, ⟨some 202, .bin .neq [5, 0, 0, 0] (.t 187) (.t 201), none⟩)] [])
 (.cond (.t 202)
 (.seq (.reg [⟨some 6, .mv (.c (.bool false)), none⟩])
 (.ret))
 (.skip)))
 (.reg [⟨some 203, .mv (.t 23), none⟩,
  ⟨some 204, .mv (.t 24), none⟩,
  ⟨some 205, .ia none 3 (.t 203) (.t 204), none⟩,
  ⟨some 206, .fa 2 (.t 205), none⟩,
  ⟨none, .st 1 (.t 206) (.c (.int .i64 (-1))), none⟩])))
 (.reg [⟨some 182, .mv (.t 24), none⟩,
  ⟨some 183, .bin .add [] (.t 182) (.c (.int .i64 1)), none⟩,
  ⟨some 24, .mv (.t 183), none⟩]))))))))))))))
 (.reg [⟨some 58, .mv (.t 11), none⟩,
  ⟨some 59, .bin .add [] (.t 58) (.c (.int .i64 1)), none⟩,
  ⟨some 11, .mv (.t 59), none⟩]))))))
 (.seq (.reg [⟨some 207, .call 40 [], none⟩,
  ⟨some 6, .mv (.t 207), none⟩])
 (.ret))))))),
 [.tmp 6], true⟩
/-- ephemeris/ephemerislaw20.FilterKnown -/
def M12 : MFunc := ⟨.seq (.reg [⟨some 0, .mv (.c (.bool false)), none⟩])
 (.seq (.reg [⟨some 1, .mv (.c .nilp), none⟩])
 (.seq (.reg [⟨some 23, .bld [.nilp, (.int .i64 0), (.int .i64 0), (.int .i64 0), (.int .i64 0), (.int .i64 0), (.int .i64 0), (.int .i64 0), (.int .i64 0), (.int .i64 0), (.int .i64 0), (.int .i64 0), (.int .i64 0), (.int .i64 0), (.int .i64 0), (.int .i64 0), (.int .i64 0), (.int .i64 0), (.int .i64 0), (.int .i64 0), (.int .i64 0), (.int .i64 0), (.int .i64 0), (.int .i64 0), (.int .i64 0), (.int .i64 0), (.int .i64 0), (.bool false)] [], none⟩,
  ⟨some 24, .bx none 28 (.t 23), none⟩,
  ⟨some 2, .mv (.t 24), none⟩])
 (.seq (.reg [⟨some 26, .mv (.t 1), none⟩,
  ⟨some 27, .call 35 [(.t 26), (.c (.int .i64 0))], none⟩,
  ⟨some 25, .mv (.t 27), none⟩,
  ⟨some 28, .ex 0 (.t 25), none⟩,
  ⟨some 29, .ex 1 (.t 25), none⟩,
  ⟨some 3, .al (.ints .i64 [0, 0, 0]), none⟩,
  ⟨none, .st 3 (.t 3) (.t 28), none⟩,
  ⟨some 4, .mv (.t 29), none⟩])
 (.seq (.reg [⟨some 31, .mv (.t 2), none⟩,
  ⟨some 32, .call 39 [(.t 31), (.c (.int .i64 0))], none⟩,
  ⟨some 30, .mv (.t 32), none⟩,
  ⟨some 33, .ex 0 (.t 30), none⟩,
  ⟨some 34, .ex 1 (.t 30), none⟩,
  ⟨some 5, .al (.ints .i64 [0, 0, 0]), none⟩,
  ⟨none, .st 3 (.t 5) (.t 33), none⟩,
  ⟨some 6, .mv (.t 34), none⟩])
 (.seq (.seq (.reg [⟨some 35, .mv (.t 4), none⟩,
  ⟨some 36, .mv (.t 35), none⟩,
  ⟨some 37, .mv (.t 6), some (36, false)⟩,
  ⟨some 38, .pick (.t 36) (.c (.bool true)) (.t 37), none⟩,
  ⟨some 39, .mv (.t 38), none⟩,
  ⟨some 40, .mv (.t 1), some (39, false)⟩,
  ⟨some 41, .bld [(.int .i64 0), (.int .i64 0), (.int .i64 0)] [], some (39, false)⟩,
  ⟨some 42, .call 34 [(.t 40), (.t 41)], some (39, false)⟩,
  ⟨some 43, .bin .neq [] (.t 42) (.c (.int .i64 2)), some (39, false)⟩,
  ⟨some 44, .pick (.t 39) (.c (.bool true)) (.t 43), none⟩,
  ⟨some 45, .mv (.t 44), none⟩,
  ⟨some 46, .mv (.t 2), some (45, false)⟩,
  ⟨some 47, .call 43 [(.t 46), (.c (.int .i64 0))], some (45, false)⟩,
  ⟨some 48, .bin .neq [] (.t 47) (.c (.int .i64 0)), some (45, false)⟩,
  ⟨some 49, .pick (.t 45) (.c (.bool true)) (.t 48), none⟩,
  ⟨some 50, .mv (.t 49), none⟩,
  ⟨some 51, .mv (.t 1), some (50, false)⟩,
  ⟨some 52, .call 42 [(.t 51)], some (50, false)⟩,
  ⟨some 53, .pick (.t 50) (.c (.bool true)) (.t 52), none⟩,
  ⟨some 54, .mv (.t 53), none⟩,
  ⟨some 55, .mv (.t 2), some (54, false)⟩,
  ⟨some 56, .call 41 [(.t 55)], some (54, false)⟩,
  ⟨some 57, .len none (.t 56), some (54, false)⟩,
  ⟨some 58, .bin .neq [] (.t 57) (.c (.int .i64 0)), some (54, false)⟩,
  ⟨some 59, .pick (.t 54) (.c (.bool true)) (.t 58), none⟩,
  ⟨some 60, .mv (.t 59), none⟩,
  ⟨some 61, .mv (.t 1), some (60, false)⟩,
  ⟨some 62, .call 47 [(.t 61)], some (60, false)⟩,
  ⟨some 63, .bin .neq [2] (.t 62) (.c .nilp), some (60, false)⟩,
  ⟨some 64, .pick (.t 60) (.c (.bool true)) (.t 63), none⟩])
 (.cond (.t 64)
 (.seq (.reg [⟨some 0, .mv (.c (.bool false)), none⟩])
 (.ret))
 (.skip)))
 (.seq (.reg [⟨some 66, .call 33 [(.c (.int .i64 0)), (.c (.int .i64 0))], none⟩,
  ⟨some 65, .mv (.t 66), none⟩,
  ⟨some 67, .ex 0 (.t 65), none⟩,
  ⟨some 68, .ex 1 (.t 65), none⟩,
  ⟨some 7, .mv (.t 67), none⟩,
  ⟨some 8, .mv (.t 68), none⟩])
 (.seq (.reg [⟨some 70, .call 33 [(.c (.int .i64 1)), (.c (.int .i64 500001))], none⟩,
  ⟨some 69, .mv (.t 70), none⟩,
  ⟨some 71, .ex 0 (.t 69), none⟩,
  ⟨some 72, .ex 1 (.t 69), none⟩,
  ⟨some 9, .mv (.t 71), none⟩,
  ⟨some 10, .mv (.t 72), none⟩])
 (.seq (.reg [⟨some 74, .call 33 [(.c (.int .i64 1)), (.c (.int .i64 0))], none⟩,
  ⟨some 73, .mv (.t 74), none⟩,
  ⟨some 75, .ex 0 (.t 73), none⟩,
  ⟨some 76, .ex 1 (.t 73), none⟩,
  ⟨some 11, .mv (.t 75), none⟩,
  ⟨some 12, .mv (.t 76), none⟩])
 (.seq (.seq (.reg [⟨some 77, .mv (.t 12), none⟩,
  ⟨some 78, .bin .neq [] (.t 77) (.c (.int .i64 0)), none⟩])
 (.cond (.t 78)
 (.seq (.reg [⟨some 0, .mv (.c (.bool false)), none⟩])
 (.ret))
 (.skip)))
 (.seq (.reg [⟨some 80, .mv (.t 11), none⟩,
  ⟨some 81, .call 35 [(.t 80), (.c (.int .i64 5))], none⟩,
  ⟨some 79, .mv (.t 81), none⟩,
  ⟨some 82, .ex 0 (.t 79), none⟩,
  ⟨some 83, .ex 1 (.t 79), none⟩,
  ⟨some 13, .al (.ints .i64 [0, 0, 0]), none⟩,
  ⟨none, .st 3 (.t 13) (.t 82), none⟩,
  ⟨some 14, .mv (.t 83), none⟩])
 (.seq (.reg [⟨some 84, .mv (.t 11), none⟩,
  ⟨some 85, .bld [(.int .i64 0), (.int .i64 0), (.int .i64 0)] [(0, 1, (.c (.int .i64 5))), (1, 1, (.c (.int .i64 9))), (2, 1, (.c (.int .i64 8)))], none⟩,
  ⟨some 86, .call 34 [(.t 84), (.t 85)], none⟩,
  ⟨some 15, .mv (.t 86), none⟩])
 (.seq (.reg [⟨some 87, .mv (.t 11), none⟩,
  ⟨some 88, .bld [(.int .i64 0), (.int .i64 0), (.int .i64 0)] [(0, 1, (.c (.int .i64 5))), (1, 1, (.c (.int .i64 8))), (2, 1, (.c (.int .i64 8)))], none⟩,
  ⟨some 89, .call 34 [(.t 87), (.t 88)], none⟩,
  ⟨some 16, .mv (.t 89), none⟩])
 (.seq (.reg [⟨some 90, .mv (.t 11), none⟩,
  ⟨some 91, .bld [(.int .i64 0), (.int .i64 0), (.int .i64 0)] [(0, 1, (.c (.int .i64 4))), (1, 1, (.c (.int .i64 8))), (2, 1, (.c (.int .i64 8)))], none⟩,
  ⟨some 92, .call 34 [(.t 90), (.t 91)], none⟩,
  ⟨some 17, .mv (.t 92), none⟩])
 (.seq (.reg [⟨some 94, .mv (.t 11), none⟩,
  ⟨some 95, .call 35 [(.t 94), (.c (.int .i64 4))], none⟩,
  ⟨some 93, .mv (.t 95), none⟩,
  ⟨some 96, .ex 0 (.t 93), none⟩,
  ⟨some 97, .ex 1 (.t 93), none⟩,
  ⟨some 18, .al (.ints .i64 [0, 0, 0]), none⟩,
  ⟨none, .st 3 (.t 18) (.t 96), none⟩,
  ⟨some 19, .mv (.t 97), none⟩])
 (.seq (.reg [⟨some 99, .mv (.t 11), none⟩,
  ⟨some 100, .call 35 [(.t 99), (.c (.int .i64 4611686018427387905))], none⟩,
  ⟨some 98, .mv (.t 100), none⟩,
  ⟨some 101, .ex 0 (.t 98), none⟩,
  ⟨some 102, .ex 1 (.t 98), none⟩,
  ⟨some 20, .al (.ints .i64 [0, 0, 0]), none⟩,
  ⟨none, .st 3 (.t 20) (.t 101), none⟩,
  ⟨some 21, .mv (.t 102), none⟩])
 (.seq (.seq (.reg [⟨some 22, .mv (.c (.int .i64 0)), none⟩])
 (.block 0 [8, 10, 11, 14, 15, 16, 17, 19, 21]
 (.loop [8, 10, 11, 14, 15, 16, 17, 19, 21, 22]
 (.seq (.seq (.reg [⟨some 103, .mv (.t 22), none⟩,
  ⟨some 104, .bin .lss [] (.t 103) (.c (.int .i64 9)), none⟩])
 (.cond (.t 104)
 (.skip)
 (.exit 0)))
 (.seq (.block 1 [8, 10, 11, 14, 15, 16, 17, 19, 21, 22]
 (.seq (.reg [⟨some 107, .mv (.t 11), none⟩,
  ⟨some 108, .mv (.t 22), none⟩,
  ⟨some 109, .bin .add [] (.c (.int .i64 5)) (.t 108), none⟩,
  ⟨some 110, .bld [(.int .i64 0), (.int .i64 0), (.int .i64 0)] [(0, 1, (.t 109)), (1, 1, (.c (.int .i64 8))), (2, 1, (.c (.int .i64 28)))], none⟩,
  ⟨some 111, .call 34 [(.t 107), (.t 110)], none⟩,
  ⟨some 112, .bin .neq [] (.t 111) (.c (.int .i64 0)), none⟩])
 (.cond (.t 112)
 (.seq (.reg [⟨some 0, .mv (.c (.bool false)), none⟩])
 (.ret))
 (.skip))))
 (.reg [⟨some 105, .mv (.t 22), none⟩,
  ⟨some 106, .bin .add [] (.t 105) (.c (.int .i64 1)), none⟩,
  ⟨some 22, .mv (.t 106), none⟩]))))))
 (.seq (.reg [⟨some 113, .mv (.t 8), none⟩,
  ⟨some 114, .bin .eql [] (.t 113) (.c (.int .i64 1)), none⟩,
  ⟨some 115, .mv (.t 114), none⟩,
  ⟨some 116, .mv (.t 10), some (115, true)⟩,
  ⟨some 117, .bin .eql [] (.t 116) (.c (.int .i64 1)), some (115, true)⟩,
  ⟨some 118, .pick (.t 115) (.t 117) (.c (.bool false)), none⟩,
  ⟨some 119, .mv (.t 118), none⟩,
  ⟨some 120, .mv (.t 14), some (119, true)⟩,
  ⟨some 121, .un .not (.t 120), some (119, true)⟩,
  ⟨some 122, .pick (.t 119) (.t 121) (.c (.bool false)), none⟩,
  ⟨some 123, .mv (.t 122), none⟩,
  ⟨some 124, .mv (.t 15), some (123, true)⟩,
  ⟨some 125, .bin .eql [] (.t 124) (.c (.int .i64 1)), some (123, true)⟩,
  ⟨some 126, .pick (.t 123) (.t 125) (.c (.bool false)), none⟩,
  ⟨some 127, .mv (.t 126), none⟩,
  ⟨some 128, .mv (.t 16), some (127, true)⟩,
  ⟨some 129, .bin .eql [] (.t 128) (.c (.int .i64 0)), some (127, true)⟩,
  ⟨some 130, .pick (.t 127) (.t 129) (.c (.bool false)), none⟩,
  ⟨some 131, .mv (.t 130), none⟩,
  ⟨some 132, .mv (.t 17), some (131, true)⟩,
  ⟨some 133, .bin .eql [] (.t 132) (.c (.int .i64 1)), some (131, true)⟩,
  ⟨some 134, .pick (.t 131) (.t 133) (.c (.bool false)), none⟩,
  ⟨some 135, .mv (.t 134), none⟩,
  ⟨some 136, .mv (.t 19), some (135, true)⟩,
  ⟨some 137, .un .not (.t 136), some (135, true)⟩,
  ⟨some 138, .pick (.t 135) (.t 137) (.c (.bool false)), none⟩,
  ⟨some 139, .mv (.t 138), none⟩,
  ⟨some 140, .mv (.t 21), some (139, true)⟩,
  ⟨some 141, .un .not (.t 140), some (139, true)⟩,
  ⟨some 142, .pick (.t 139) (.t 141) (.c (.bool false)), none⟩,
  ⟨some 143, .mv (.t 142), none⟩,
  ⟨some 144, .mv (.t 11), some (143, true)⟩,
  ⟨some 145, .call 41 [(.t 144)], some (143, true)⟩,
  ⟨some 146, .len none (.t 145), some (143, true)⟩,
  ⟨some 147, .bin .eql [] (.t 146) (.c (.int .i64 8)), some (143, true)⟩,
  ⟨some 148, .pick (.t 143) (.t 147) (.c (.bool false)), none⟩,
  ⟨some 149, .mv (.t 148), none⟩,
  ⟨some 150, .mv (.t 11), some (149, true)⟩,
  ⟨some 151, .call 41 [(.t 150)], some (149, true)⟩,
  ⟨some 152, .ia none 3 (.t 151) (.c (.int .i64 7)), some (149, true)⟩,
  ⟨some 153, .fa 0 (.t 152), some (149, true)⟩,
  ⟨some 154, .ld none (.t 153), some (149, true)⟩,
  ⟨some 155, .bin .eql [] (.t 154) (.c (.int .i64 6)), some (149, true)⟩,
  ⟨some 156, .pick (.t 149) (.t 155) (.c (.bool false)), none⟩,
  ⟨some 157, .mv (.t 156), none⟩,
  ⟨some 158, .call 40 [], some (157, true)⟩,
  ⟨some 159, .pick (.t 157) (.t 158) (.c (.bool false)), none⟩,
  ⟨some 0, .mv (.t 159), none⟩])
 (.ret)))))))))))))))))),
 [.tmp 0], true⟩
/-- ephemeris/ephemerislaw30.made -/
def M13 : MFunc := ⟨.seq (.reg [⟨some 6, .mv (.c .nilp), none⟩])
 (.seq (.reg [⟨some 12, .bld [(.int .i64 0), (.int .i64 0)] [], none⟩,
  ⟨some 13, .bsl (.ints .i64 [0, 0]) 1 2 [(0, 2, (.t 12))], none⟩,
  ⟨some 7, .mv (.t 13), none⟩])
 (.seq (.seq (.reg [⟨some 8, .mv (.c (.int .i64 0)), none⟩])
 (.block 0 [0, 7]
 (.loop [0, 1, 2, 7, 8]
 (.seq (.seq (.reg [⟨some 14, .mv (.t 8), none⟩,
  ⟨some 15, .mv (.t 1), none⟩,
  ⟨some 16, .len none (.t 15), none⟩,
  ⟨some 17, .bin .lss [] (.t 14) (.t 16), none⟩,
  ⟨some 18, .mv (.t 17), none⟩,
  ⟨some 19, .mv (.t 8), some (18, true)⟩,
  ⟨some 20, .mv (.t 2), some (18, true)⟩,
  ⟨some 21, .len none (.t 20), some (18, true)⟩,
  ⟨some 22, .bin .lss [] (.t 19) (.t 21), some (18, true)⟩,
  ⟨some 23, .pick (.t 18) (.t 22) (.c (.bool false)), none⟩,
  ⟨some 24, .mv (.t 23), none⟩,
  ⟨some 25, .mv (.t 8), some (24, true)⟩,
  ⟨some 26, .bin .lss [] (.t 25) (.c (.int .i64 10)), some (24, true)⟩,
  ⟨some 27, .pick (.t 24) (.t 26) (.c (.bool false)), none⟩])
 (.cond (.t 27)
 (.skip)
 (.exit 0)))
 (.seq (.block 1 [0, 1, 2, 7, 8]
 (.seq (.reg [⟨some 30, .mv (.t 7), none⟩,
  ⟨some 31, .len none (.t 30), none⟩,
  ⟨some 32, .bin .sub [] (.t 31) (.c (.int .i64 1)), none⟩,
  ⟨some 9, .mv (.t 32), none⟩])
 (.seq (.reg [⟨some 33, .mv (.t 7), none⟩,
  ⟨some 34, .mv (.t 9), none⟩,
  ⟨some 35, .mv (.t 2), none⟩,
  ⟨some 36, .mv (.t 8), none⟩,
  ⟨some 37, .ia none 1 (.t 35) (.t 36), none⟩,
  ⟨some 38, .ld none (.t 37), none⟩,
  ⟨some 39, .bin .rem [] (.t 38) (.c (.int .i32 500001)), none⟩,
  ⟨some 40, .ci .i64 (.t 39), none⟩,
  ⟨some 41, .ia none 2 (.t 33) (.t 34), none⟩,
  ⟨some 42, .fa 1 (.t 41), none⟩,
  ⟨none, .st 1 (.t 42) (.t 40), none⟩])
 (.regd [(0, ⟨some 43, .mv (.t 7), none⟩),
  (1, ⟨some 44, .mv (.t 7), none⟩),
  (2, ⟨some 45, .mv (.t 9), none⟩),
  (3, ⟨some 46, .ia none 2 (.t 44) (.t 45), none⟩),
  (4, ⟨some 47, .fa 0 (.t 46), none⟩),
  (5, ⟨some 48, .ld none (.t 47), none⟩),
  (6, ⟨some 49, .bin .add [] (.t 48) (.c (.int .i64 1)), none⟩),
  (7, ⟨some 50, .mv (.t 1), none⟩),
  (8, ⟨some 51, .mv (.t 8), none⟩),
  (9, ⟨some 52, .ia none 1 (.t 50) (.t 51), none⟩),
  (10, ⟨some 53, .ld none (.t 52), none⟩),
  (11, ⟨some 54, .bin .rem [] (.t 53) (.c (.int .u64 70368744177664)), none⟩),
  (12, ⟨some 55, .ci .i64 (.t 54), none⟩),
  (13, ⟨some 56, .bin .add [] (.t 49) (.t 55), none⟩),
  (14, ⟨some 57, .bld [(.int .i64 0), (.int .i64 0)] [(0, 1, (.t 56))], none⟩),
  (15, ⟨some 58, .bsl (.ints .i64 [0, 0]) 1 2 [(0, 2, (.t 57))], none⟩),
  (16, ⟨some 59, .app (.ints .i64 [0, 0]) 16 (.t 43) (.t 58), none⟩),
  (17, ⟨some 7, .mv (.t 59), none⟩)] []))))
 (.reg [⟨some 28, .mv (.t 8), none⟩,
  ⟨some 29, .bin .add [] (.t 28) (.c (.int .i64 1)), none⟩,
  ⟨some 8, .mv (.t 29), none⟩]))))))
 (.seq (.reg [⟨some 61, .mv (.t 0), none⟩,
  ⟨some 62, .ci .u64 (.t 61), none⟩,
  ⟨some 63, .bin .rem [] (.t 62) (.c (.int .u64 999999001)), none⟩,
  ⟨some 64, .bin .add [] (.c (.int .u64 1000)) (.t 63), none⟩,
  ⟨some 65, .mv (.t 7), none⟩,
  ⟨some 66, .call 19 [(.t 64), (.c (.int .i64 64)), (.c (.int .u64 0)), (.t 65)], none⟩,
  ⟨some 60, .mv (.t 66), none⟩,
  ⟨some 67, .ex 0 (.t 60), none⟩,
  ⟨some 68, .ex 1 (.t 60), none⟩,
  ⟨some 10, .mv (.t 67), none⟩,
  ⟨some 11, .mv (.t 68), none⟩])
 (.seq (.reg [⟨some 69, .mv (.t 10), none⟩,
  ⟨some 6, .mv (.t 69), none⟩])
 (.ret))))),
 [.tmp 6], true⟩
/-- (*ephemeris/sky.Sky).Ticks -/
def M14 : MFunc := ⟨.seq (.reg [⟨some 4, .mv (.c (.int .u64 0)), none⟩])
 (.seq (.seq (.reg [⟨some 12, .mv (.t 0), none⟩,
  ⟨some 13, .call 50 [(.t 12)], none⟩])
 (.cond (.t 13)
 (.seq (.reg [⟨some 4, .mv (.c (.int .u64 0)), none⟩])
 (.ret))
 (.skip)))
 (.seq (.reg [⟨some 14, .mv (.t 1), none⟩,
  ⟨some 15, .call 51 [(.t 14)], none⟩,
  ⟨some 1, .mv (.t 15), none⟩])
 (.seq (.reg [⟨some 5, .al (.ints .u64 [0, 0]), none⟩])
 (.seq (.seq (.reg [⟨some 16, .mv (.t 0), none⟩,
  ⟨some 17, .nc (.t 16), none⟩,
  ⟨some 18, .fa 3 (.t 17), none⟩,
  ⟨some 19, .ld none (.t 18), none⟩,
  ⟨some 20, .len none (.t 19), none⟩,
  ⟨some 21, .mv (.c (.int .i64 0)), none⟩])
 (.block 0 [0, 5]
 (.loop [0, 1, 5, 19, 20, 21]
 (.seq (.reg [⟨some 22, .bin .lss [] (.t 21) (.t 20), none⟩])
 (.seq (.cond (.t 22)
 (.skip)
 (.exit 0))
 (.seq (.block 1 [0, 1, 5, 19, 20, 21]
 (.seq (.reg [⟨some 23, .mv (.t 21), none⟩,
  ⟨some 24, .ia none 2 (.t 19) (.t 21), none⟩,
  ⟨some 25, .ld (some 2) (.t 24), none⟩,
  ⟨some 7, .al (.ints .i64 [0, 0]), none⟩,
  ⟨some 6, .mv (.t 23), none⟩,
  ⟨none, .st 2 (.t 7) (.t 25), none⟩])
 (.seq (.reg [⟨some 26, .mv (.t 1), none⟩,
  ⟨some 8, .mv (.t 26), none⟩])
 (.seq (.seq (.reg [⟨some 27, .mv (.t 6), none⟩,
  ⟨some 28, .bin .add [] (.t 27) (.c (.int .i64 1)), none⟩,
  ⟨some 29, .mv (.t 0), none⟩,
  ⟨some 30, .nc (.t 29), none⟩,
  ⟨some 31, .fa 3 (.t 30), none⟩,
  ⟨some 32, .ld none (.t 31), none⟩,
  ⟨some 33, .len none (.t 32), none⟩,
  ⟨some 34, .bin .lss [] (.t 28) (.t 33), none⟩])
 (.cond (.t 34)
 (.reg [⟨some 35, .mv (.t 1), none⟩,
  ⟨some 36, .mv (.t 0), none⟩,
  ⟨some 37, .nc (.t 36), none⟩,
  ⟨some 38, .fa 3 (.t 37), none⟩,
  ⟨some 39, .ld none (.t 38), none⟩,
  ⟨some 40, .mv (.t 6), none⟩,
  ⟨some 41, .bin .add [] (.t 40) (.c (.int .i64 1)), none⟩,
  ⟨some 42, .ia none 2 (.t 39) (.t 41), none⟩,
  ⟨some 43, .fa 0 (.t 42), none⟩,
  ⟨some 44, .ld none (.t 43), none⟩,
  ⟨some 45, .mnx false [(.t 35), (.t 44)], none⟩,
  ⟨some 8, .mv (.t 45), none⟩])
 (.skip)))
 (.seq (.reg [⟨some 46, .mv (.t 8), none⟩,
  ⟨some 47, .fa 0 (.t 7), none⟩,
  ⟨some 48, .ld none (.t 47), none⟩,
  ⟨some 49, .bin .gtr [] (.t 46) (.t 48), none⟩])
 (.cond (.t 49)
 (.reg [⟨some 50, .ld (some 2) (.t 5), none⟩,
  ⟨some 51, .mv (.t 8), none⟩,
  ⟨some 52, .fa 0 (.t 7), none⟩,
  ⟨some 53, .ld none (.t 52), none⟩,
  ⟨some 54, .bin .sub [] (.t 51) (.t 53), none⟩,
  ⟨some 55, .ci .u64 (.t 54), none⟩,
  ⟨some 56, .fa 1 (.t 7), none⟩,
  ⟨some 57, .ld none (.t 56), none⟩,
  ⟨some 58, .bin .add [] (.c (.int .i64 1000000000)) (.t 57), none⟩,
  ⟨some 59, .ci .u64 (.t 58), none⟩,
  ⟨some 60, .call 52 [(.t 50), (.t 55), (.t 59)], none⟩,
  ⟨none, .st 2 (.t 5) (.t 60), none⟩])
 (.skip)))))))
 (.reg [⟨some 61, .bin .add [] (.t 21) (.c (.int .i64 1)), none⟩,
  ⟨some 21, .mv (.t 61), none⟩])))))))
 (.seq (.regd [(0, ⟨some 62, .ia (some 2) 1 (.t 5) (.c (.int .i64 0)), none⟩),
  (1, ⟨some 63, .ld none (.t 62), none⟩),
  (2, ⟨some 64, .mv (.t 0), none⟩),
  (3, ⟨some 65, .nc (.t 64), none⟩),
  (4, ⟨some 66, .fa 0 (.t 65), none⟩),
  (5, ⟨some 67, .ld none (.t 66), none⟩),
  (6, ⟨some 68, .bin .mul [] (.t 63) (.t 67), none⟩),
  (7, ⟨some 69, .bld [(.int .u64 0), (.int .u64 0)] [(0, 1, (.t 68))], none⟩),
  (8, ⟨some 70, .ia (some 2) 1 (.t 5) (.c (.int .i64 1)), none⟩),
  (9, ⟨some 71, .ld none (.t 70), none⟩),
  (10, ⟨some 72, .mv (.t 0), none⟩),
  (11, ⟨some 73, .nc (.t 72), none⟩),
  (12, ⟨some 74, .fa 0 (.t 73), none⟩),
  (13, ⟨some 75, .ld none (.t 74), none⟩),
  (14, ⟨some 76, .call 52 [(.t 69), (.t 71), (.t 75)], none⟩),
  (15, ⟨some 9, .al (.ints .u64 [0, 0]), none⟩),
  (16, ⟨none, .st 2 (.t 9) (.t 76), none⟩)] [])
 (.seq (.reg [⟨some 78, .ia (some 2) 1 (.t 9) (.c (.int .i64 0)), none⟩,
  ⟨some 79, .ld none (.t 78), none⟩,
  ⟨some 80, .ia (some 2) 1 (.t 9) (.c (.int .i64 1)), none⟩,
  ⟨some 81, .ld none (.t 80), none⟩,
  ⟨some 82, .call 53 [(.t 79), (.t 81), (.c (.int .u64 1000000000000000000))], none⟩,
  ⟨some 77, .mv (.t 82), none⟩,
  ⟨some 83, .ex 0 (.t 77), none⟩,
  ⟨some 84, .ex 1 (.t 77), none⟩,
  ⟨some 10, .mv (.t 83), none⟩,
  ⟨some 11, .mv (.t 84), none⟩])
 (.seq (.reg [⟨some 85, .mv (.t 10), none⟩,
  ⟨some 4, .mv (.t 85), none⟩])
 (.ret)))))))),
 [.tmp 4], true⟩
/-- (*ephemeris/sky.Sky).Read -/
def M15 : MFunc := ⟨.seq (.reg [⟨some 4, .mv (.c (.int .u64 0)), none⟩])
 (.seq (.seq (.reg [⟨some 5, .mv (.t 0), none⟩,
  ⟨some 6, .call 50 [(.t 5)], none⟩])
 (.cond (.t 6)
 (.seq (.reg [⟨some 4, .mv (.c (.int .u64 0)), none⟩])
 (.ret))
 (.skip)))
 (.seq (.regd [(0, ⟨some 7, .mv (.t 0), none⟩),
  (1, ⟨some 8, .nc (.t 7), none⟩),
  (2, ⟨some 9, .fa 2 (.t 8), none⟩),
  (3, ⟨some 10, .ld none (.t 9), none⟩),
  (4, ⟨some 11, .mv (.t 0), none⟩),
  (5, ⟨some 12, .mv (.t 1), none⟩),
  (6, ⟨some 13, .call 14 [(.t 11), (.t 12)], none⟩),
  (7, ⟨some 14, .bin .add [] (.t 10) (.t 13), none⟩),
  (8, ⟨some 15, .mv (.t 0), none⟩),
  (9, ⟨some 16, .nc (.t 15), none⟩),
  (10, ⟨some 17, .fa 1 (.t 16), none⟩),
  (11, ⟨some 18, .ld none (.t 17), none⟩),
  (12, ⟨some 19, .bin .and [] (.t 14) (.t 18), none⟩),
  (13, ⟨some 4, .mv (.t 19), none⟩)] [(3, 6), (11, 6)])
 (.ret))),
 [.tmp 4], true⟩
/-- (*ephemeris/sky.Sky).Raw -/
def M16 : MFunc := ⟨.seq (.reg [⟨some 4, .mv (.c (.int .i64 0)), none⟩])
 (.seq (.seq (.reg [⟨some 9, .mv (.t 0), none⟩,
  ⟨some 10, .call 50 [(.t 9)], none⟩])
 (.cond (.t 10)
 (.seq (.reg [⟨some 4, .mv (.c (.int .i64 0)), none⟩])
 (.ret))
 (.skip)))
 (.seq (.reg [⟨some 12, .mv (.t 0), none⟩,
  ⟨some 13, .mv (.t 1), none⟩,
  ⟨some 14, .call 14 [(.t 12), (.t 13)], none⟩,
  ⟨some 15, .call 54 [(.t 14), (.c (.int .u64 1000000000))], none⟩,
  ⟨some 11, .mv (.t 15), none⟩,
  ⟨some 16, .ex 0 (.t 11), none⟩,
  ⟨some 17, .ex 1 (.t 11), none⟩,
  ⟨some 5, .mv (.t 16), none⟩,
  ⟨some 6, .mv (.t 17), none⟩])
 (.seq (.reg [⟨some 19, .mv (.t 5), none⟩,
  ⟨some 20, .mv (.t 6), none⟩,
  ⟨some 21, .mv (.t 0), none⟩,
  ⟨some 22, .nc (.t 21), none⟩,
  ⟨some 23, .fa 0 (.t 22), none⟩,
  ⟨some 24, .ld none (.t 23), none⟩,
  ⟨some 25, .call 53 [(.t 19), (.t 20), (.t 24)], none⟩,
  ⟨some 18, .mv (.t 25), none⟩,
  ⟨some 26, .ex 0 (.t 18), none⟩,
  ⟨some 27, .ex 1 (.t 18), none⟩,
  ⟨some 7, .mv (.t 26), none⟩,
  ⟨some 8, .mv (.t 27), none⟩])
 (.seq (.reg [⟨some 28, .mv (.t 7), none⟩,
  ⟨some 29, .ci .i64 (.t 28), none⟩,
  ⟨some 4, .mv (.t 29), none⟩])
 (.ret))))),
 [.tmp 4], true⟩
/-- ephemeris/ephemerislaw30.alive -/
def M17 : MFunc := ⟨.seq (.reg [⟨some 0, .mv (.c (.bool false)), none⟩])
 (.seq (.reg [⟨some 6, .call 55 [], none⟩,
  ⟨some 5, .mv (.t 6), none⟩,
  ⟨some 7, .ex 0 (.t 5), none⟩,
  ⟨some 8, .ex 1 (.t 5), none⟩,
  ⟨some 1, .mv (.t 7), none⟩,
  ⟨some 2, .mv (.t 8), none⟩])
 (.seq (.seq (.reg [⟨some 9, .mv (.t 2), none⟩,
  ⟨some 10, .bin .neq [] (.t 9) (.c (.int .i64 0)), none⟩])
 (.cond (.t 10)
 (.seq (.reg [⟨some 0, .mv (.c (.bool false)), none⟩])
 (.ret))
 (.skip)))
 (.seq (.reg [⟨some 12, .mv (.t 1), none⟩,
  ⟨some 13, .call 18 [(.t 12), (.c (.int .u64 4001))], none⟩,
  ⟨some 11, .mv (.t 13), none⟩,
  ⟨some 14, .ex 0 (.t 11), none⟩,
  ⟨some 15, .ex 1 (.t 11), none⟩,
  ⟨some 3, .mv (.t 14), none⟩,
  ⟨some 4, .mv (.t 15), none⟩])
 (.seq (.reg [⟨some 16, .mv (.t 1), none⟩,
  ⟨some 17, .call 14 [(.t 16), (.c (.int .i64 999999))], none⟩,
  ⟨some 18, .bin .eql [] (.t 17) (.c (.int .u64 0)), none⟩,
  ⟨some 19, .mv (.t 18), none⟩,
  ⟨some 20, .mv (.t 1), some (19, true)⟩,
  ⟨some 21, .call 14 [(.t 20), (.c (.int .i64 1000000))], some (19, true)⟩,
  ⟨some 22, .bin .eql [] (.t 21) (.c (.int .u64 1)), some (19, true)⟩,
  ⟨some 23, .pick (.t 19) (.t 22) (.c (.bool false)), none⟩,
  ⟨some 24, .mv (.t 23), none⟩,
  ⟨some 25, .mv (.t 1), some (24, true)⟩,
  ⟨some 26, .call 14 [(.t 25), (.c (.int .i64 2000000000))], some (24, true)⟩,
  ⟨some 27, .bin .eql [] (.t 26) (.c (.int .u64 2000)), some (24, true)⟩,
  ⟨some 28, .pick (.t 24) (.t 27) (.c (.bool false)), none⟩,
  ⟨some 29, .mv (.t 28), none⟩,
  ⟨some 30, .mv (.t 1), some (29, true)⟩,
  ⟨some 31, .call 14 [(.t 30), (.c (.int .i64 4000000000))], some (29, true)⟩,
  ⟨some 32, .bin .eql [] (.t 31) (.c (.int .u64 4001)), some (29, true)⟩,
  ⟨some 33, .pick (.t 29) (.t 32) (.c (.bool false)), none⟩,
  ⟨some 34, .mv (.t 33), none⟩,
  ⟨some 35, .mv (.t 1), some (34, true)⟩,
  ⟨some 36, .call 15 [(.t 35), (.c (.int .i64 10000000))], some (34, true)⟩,
  ⟨some 37, .bin .eql [] (.t 36) (.c (.int .u64 4)), some (34, true)⟩,
  ⟨some 38, .pick (.t 34) (.t 37) (.c (.bool false)), none⟩,
  ⟨some 39, .mv (.t 38), none⟩,
  ⟨some 40, .mv (.t 1), some (39, true)⟩,
  ⟨some 41, .call 16 [(.t 40), (.c (.int .i64 4000000000))], some (39, true)⟩,
  ⟨some 42, .bin .eql [] (.t 41) (.c (.int .i64 4001000000)), some (39, true)⟩,
  ⟨some 43, .pick (.t 39) (.t 42) (.c (.bool false)), none⟩,
  ⟨some 44, .mv (.t 43), none⟩,
  ⟨some 45, .mv (.t 1), some (44, true)⟩,
  ⟨some 46, .call 27 [(.t 45)], some (44, true)⟩,
  ⟨some 47, .bin .eql [] (.t 46) (.c (.int .i64 500000)), some (44, true)⟩,
  ⟨some 48, .pick (.t 44) (.t 47) (.c (.bool false)), none⟩,
  ⟨some 49, .mv (.t 48), none⟩,
  ⟨some 50, .mv (.t 4), some (49, true)⟩,
  ⟨some 51, .pick (.t 49) (.t 50) (.c (.bool false)), none⟩,
  ⟨some 52, .mv (.t 51), none⟩,
  ⟨some 53, .mv (.t 3), some (52, true)⟩,
  ⟨some 54, .bin .eql [] (.t 53) (.c (.int .i64 4000000000)), some (52, true)⟩,
  ⟨some 55, .pick (.t 52) (.t 54) (.c (.bool false)), none⟩,
  ⟨some 0, .mv (.t 55), none⟩])
 (.ret))))),
 [.tmp 0], true⟩
/-- (*ephemeris/sky.Sky).When -/
def M18 : MFunc := ⟨.seq (.reg [⟨some 2, .bx none 1 (.t 0), none⟩,
  ⟨some 3, .bx (some .u64) 1 (.t 1), none⟩,
  ⟨some 4, .mv (.c (.int .i64 0)), none⟩,
  ⟨some 5, .mv (.c (.bool false)), none⟩])
 (.seq (.seq (.regd [(0, ⟨some 7, .ld none (.t 2), none⟩),
  (1, ⟨some 8, .call 50 [(.t 7)], none⟩),
  (2, ⟨some 9, .mv (.t 8), none⟩),
  (3, ⟨some 10, .ld none (.t 2), some (9, false)⟩),
  (4, ⟨some 11, .call 14 [(.t 10), (.c (.int .i64 4503599627370496))], some (9, false)⟩),
  (5, ⟨some 12, .ld none (.t 3), some (9, false)⟩),
  (6, ⟨some 13, .bin .lss [] (.t 11) (.t 12), some (9, false)⟩),
  (7, ⟨some 14, .pick (.t 9) (.c (.bool true)) (.t 13), none⟩)] [(5, 4)])
 (.cond (.t 14)
 (.seq (.reg [⟨some 4, .mv (.c (.int .i64 0)), none⟩,
  ⟨some 5, .mv (.c (.bool false)), none⟩])
 (.ret))
 (.skip)))
 (.seq (.reg [⟨some 15, .mf 57 [(.t 2), (.t 3)], none⟩,
  ⟨some 16, .call 56 [(.c (.int .i64 4503599627370496)), (.t 15)], none⟩,
  ⟨some 6, .mv (.t 16), none⟩])
 (.seq (.reg [⟨some 17, .mv (.t 6), none⟩,
  ⟨some 4, .mv (.t 17), none⟩,
  ⟨some 5, .mv (.c (.bool true)), none⟩])
 (.ret)))),
 [.tmp 4, .tmp 5], true⟩
/-- ephemeris/sky.New -/
def M19 : MFunc := ⟨.seq (.reg [⟨some 8, .mv (.c .nilp), none⟩,
  ⟨some 9, .mv (.c (.int .i64 0)), none⟩])
 (.seq (.seq (.reg [⟨some 13, .mv (.t 0), none⟩,
  ⟨some 14, .bin .lss [] (.t 13) (.c (.int .u64 1)), none⟩,
  ⟨some 15, .mv (.t 14), none⟩,
  ⟨some 16, .mv (.t 0), some (15, false)⟩,
  ⟨some 17, .bin .gtr [] (.t 16) (.c (.int .u64 1000000000)), some (15, false)⟩,
  ⟨some 18, .pick (.t 15) (.c (.bool true)) (.t 17), none⟩,
  ⟨some 19, .mv (.t 18), none⟩,
  ⟨some 20, .mv (.t 1), some (19, false)⟩,
  ⟨some 21, .bin .lss [] (.t 20) (.c (.int .i64 8)), some (19, false)⟩,
  ⟨some 22, .pick (.t 19) (.c (.bool true)) (.t 21), none⟩,
  ⟨some 23, .mv (.t 22), none⟩,
  ⟨some 24, .mv (.t 1), some (23, false)⟩,
  ⟨some 25, .bin .gtr [] (.t 24) (.c (.int .i64 64)), some (23, false)⟩,
  ⟨some 26, .pick (.t 23) (.c (.bool true)) (.t 25), none⟩,
  ⟨some 27, .mv (.t 26), none⟩,
  ⟨some 28, .mv (.t 3), some (27, false)⟩,
  ⟨some 29, .len none (.t 28), some (27, false)⟩,
  ⟨some 30, .bin .lss [] (.t 29) (.c (.int .i64 1)), some (27, false)⟩,
  ⟨some 31, .pick (.t 27) (.c (.bool true)) (.t 30), none⟩,
  ⟨some 32, .mv (.t 31), none⟩,
  ⟨some 33, .mv (.t 3), some (32, false)⟩,
  ⟨some 34, .len none (.t 33), some (32, false)⟩,
  ⟨some 35, .bin .gtr [] (.t 34) (.c (.int .i64 64)), some (32, false)⟩,
  ⟨some 36, .pick (.t 32) (.c (.bool true)) (.t 35), none⟩])
 (.cond (.t 36)
 (.seq (.reg [⟨some 8, .mv (.c .nilp), none⟩,
  ⟨some 9, .mv (.c (.int .i64 1)), none⟩])
 (.ret))
 (.skip)))
 (.seq (.reg [⟨some 37, .mv (.t 1), none⟩,
  ⟨some 38, .bin .sub [] (.c (.int .i64 64)) (.t 37), none⟩,
  ⟨some 39, .bin .shr [] (.c (.int .u64 18446744073709551615)) (.t 38), none⟩,
  ⟨some 10, .mv (.t 39), none⟩])
 (.seq (.reg [⟨some 11, .al (.ints .i64 [0]), none⟩,
  ⟨none, .st 1 (.t 11) (.c (.int .i64 (-1))), none⟩])
 (.seq (.reg [⟨some 40, .mf 58 [(.t 11)], none⟩,
  ⟨some 12, .mv (.t 40), none⟩])
 (.seq (.seq (.reg [⟨some 41, .mv (.t 2), none⟩,
  ⟨some 42, .mv (.t 10), none⟩,
  ⟨some 43, .bin .gtr [] (.t 41) (.t 42), none⟩,
  ⟨some 44, .mv (.t 43), none⟩,
  ⟨some 45, .mv (.t 3), some (44, false)⟩,
  ⟨some 46, .mv (.t 12), some (44, false)⟩,
  ⟨some 47, .call 60 [(.t 45), (.t 46)], some (44, false)⟩,
  ⟨some 48, .pick (.t 44) (.c (.bool true)) (.t 47), none⟩])
 (.cond (.t 48)
 (.seq (.reg [⟨some 8, .mv (.c .nilp), none⟩,
  ⟨some 9, .mv (.c (.int .i64 1)), none⟩])
 (.ret))
 (.skip)))
 (.seq (.reg [⟨some 49, .mv (.t 0), none⟩,
  ⟨some 50, .mv (.t 10), none⟩,
  ⟨some 51, .mv (.t 2), none⟩,
  ⟨some 52, .mv (.t 3), none⟩,
  ⟨some 53, .call 61 [(.t 52)], none⟩,
  ⟨some 54, .bld [(.int .u64 0), (.int .u64 0), (.int .u64 0), .nils] [(0, 1, (.t 49)), (1, 1, (.t 50)), (2, 1, (.t 51)), (3, 1, (.t 53))], none⟩,
  ⟨some 55, .bx none 4 (.t 54), none⟩,
  ⟨some 8, .mv (.t 55), none⟩,
  ⟨some 9, .mv (.c (.int .i64 0)), none⟩])
 (.ret))))))),
 [.tmp 8, .tmp 9], true⟩
/-- ephemeris/ephemerisref30.New -/
def M20 : MFunc := ⟨.seq (.reg [⟨some 8, .mv (.c .nilp), none⟩,
  ⟨some 9, .mv (.c (.int .i64 0)), none⟩])
 (.seq (.seq (.reg [⟨some 14, .mv (.t 0), none⟩,
  ⟨some 15, .bin .lss [] (.t 14) (.c (.int .u64 1)), none⟩,
  ⟨some 16, .mv (.t 15), none⟩,
  ⟨some 17, .mv (.t 0), some (16, false)⟩,
  ⟨some 18, .bin .gtr [] (.t 17) (.c (.int .u64 1000000000)), some (16, false)⟩,
  ⟨some 19, .pick (.t 16) (.c (.bool true)) (.t 18), none⟩,
  ⟨some 20, .mv (.t 19), none⟩,
  ⟨some 21, .mv (.t 1), some (20, false)⟩,
  ⟨some 22, .bin .lss [] (.t 21) (.c (.int .i64 8)), some (20, false)⟩,
  ⟨some 23, .pick (.t 20) (.c (.bool true)) (.t 22), none⟩,
  ⟨some 24, .mv (.t 23), none⟩,
  ⟨some 25, .mv (.t 1), some (24, false)⟩,
  ⟨some 26, .bin .gtr [] (.t 25) (.c (.int .i64 64)), some (24, false)⟩,
  ⟨some 27, .pick (.t 24) (.c (.bool true)) (.t 26), none⟩,
  ⟨some 28, .mv (.t 27), none⟩,
  ⟨some 29, .mv (.t 3), some (28, false)⟩,
  ⟨some 30, .len none (.t 29), some (28, false)⟩,
  ⟨some 31, .bin .lss [] (.t 30) (.c (.int .i64 1)), some (28, false)⟩,
  ⟨some 32, .pick (.t 28) (.c (.bool true)) (.t 31), none⟩,
  ⟨some 33, .mv (.t 32), none⟩,
  ⟨some 34, .mv (.t 3), some (33, false)⟩,
  ⟨some 35, .len none (.t 34), some (33, false)⟩,
  ⟨some 36, .bin .gtr [] (.t 35) (.c (.int .i64 64)), some (33, false)⟩,
  ⟨some 37, .pick (.t 33) (.c (.bool true)) (.t 36), none⟩])
 (.cond (.t 37)
 (.seq (.reg [⟨some 8, .mv (.c .nilp), none⟩,
  ⟨some 9, .mv (.c (.int .i64 1)), none⟩])
 (.ret))
 (.skip)))
 (.seq (.reg [⟨some 38, .mv (.t 2), none⟩,
  ⟨some 10, .mv (.t 38), none⟩])
 (.seq (.seq (.reg [⟨some 11, .mv (.c (.int .i64 0)), none⟩])
 (.block 0 [0, 1, 2, 3, 10]
 (.loop [0, 1, 2, 3, 10, 11]
 (.seq (.seq (.reg [⟨some 39, .mv (.t 11), none⟩,
  ⟨some 40, .mv (.t 1), none⟩,
  ⟨some 41, .bin .lss [] (.t 39) (.t 40), none⟩])
 (.cond (.t 41)
 (.skip)
 (.exit 0)))
 (.seq (.block 1 [0, 1, 2, 3, 10, 11]
 (.reg [⟨some 44, .mv (.t 10), none⟩,
  ⟨some 45, .bin .quo [] (.t 44) (.c (.int .u64 2)), none⟩,
  ⟨some 10, .mv (.t 45), none⟩]))
 (.reg [⟨some 42, .mv (.t 11), none⟩,
  ⟨some 43, .bin .add [] (.t 42) (.c (.int .i64 1)), none⟩,
  ⟨some 11, .mv (.t 43), none⟩]))))))
 (.seq (.seq (.reg [⟨some 46, .mv (.t 10), none⟩,
  ⟨some 47, .bin .gtr [] (.t 46) (.c (.int .u64 0)), none⟩,
  ⟨some 48, .mv (.t 47), none⟩,
  ⟨some 49, .mv (.t 3), some (48, false)⟩,
  ⟨some 50, .ia none 2 (.t 49) (.c (.int .i64 0)), some (48, false)⟩,
  ⟨some 51, .fa 0 (.t 50), some (48, false)⟩,
  ⟨some 52, .ld none (.t 51), some (48, false)⟩,
  ⟨some 53, .bin .neq [] (.t 52) (.c (.int .i64 0)), some (48, false)⟩,
  ⟨some 54, .pick (.t 48) (.c (.bool true)) (.t 53), none⟩])
 (.cond (.t 54)
 (.seq (.reg [⟨some 8, .mv (.c .nilp), none⟩,
  ⟨some 9, .mv (.c (.int .i64 1)), none⟩])
 (.ret))
 (.skip)))
 (.seq (.seq (.reg [⟨some 12, .mv (.c (.int .i64 0)), none⟩])
 (.block 2 [0, 1, 2, 3]
 (.loop [0, 1, 2, 3, 12]
 (.seq (.seq (.reg [⟨some 55, .mv (.t 12), none⟩,
  ⟨some 56, .mv (.t 3), none⟩,
  ⟨some 57, .len none (.t 56), none⟩,
  ⟨some 58, .bin .lss [] (.t 55) (.t 57), none⟩])
 (.cond (.t 58)
 (.skip)
 (.exit 2)))
 (.seq (.block 3 [0, 1, 2, 3, 12]
 (.seq (.seq (.reg [⟨some 61, .mv (.t 3), none⟩,
  ⟨some 62, .mv (.t 12), none⟩,
  ⟨some 63, .ia none 2 (.t 61) (.t 62), none⟩,
  ⟨some 64, .fa 1 (.t 63), none⟩,
  ⟨some 65, .ld none (.t 64), none⟩,
  ⟨some 66, .bin .gtr [] (.t 65) (.c (.int .i64 500000)), none⟩,
  ⟨some 67, .mv (.t 66), none⟩,
  ⟨some 68, .mv (.t 3), some (67, false)⟩,
  ⟨some 69, .mv (.t 12), some (67, false)⟩,
  ⟨some 70, .ia none 2 (.t 68) (.t 69), some (67, false)⟩,
  ⟨some 71, .fa 1 (.t 70), some (67, false)⟩,
  ⟨some 72, .ld none (.t 71), some (67, false)⟩,
  ⟨some 73, .bin .lss [] (.t 72) (.c (.int .i64 (-500000))), some (67, false)⟩,
  ⟨some 74, .pick (.t 67) (.c (.bool true)) (.t 73), none⟩,
  ⟨some 75, .mv (.t 74), none⟩,
  ⟨some 76, .mv (.t 3), some (75, false)⟩,
  ⟨some 77, .mv (.t 12), some (75, false)⟩,
  ⟨some 78, .ia none 2 (.t 76) (.t 77), some (75, false)⟩,
  ⟨some 79, .fa 0 (.t 78), some (75, false)⟩,
  ⟨some 80, .ld none (.t 79), some (75, false)⟩,
  ⟨some 81, .bin .gtr [] (.t 80) (.c (.int .i64 4503599627370496)), some (75, false)⟩,
  ⟨some 82, .pick (.t 75) (.c (.bool true)) (.t 81), none⟩])
 (.cond (.t 82)
 (.seq (.reg [⟨some 8, .mv (.c .nilp), none⟩,
  ⟨some 9, .mv (.c (.int .i64 1)), none⟩])
 (.ret))
 (.skip)))
 (.seq (.regd [(0, ⟨some 83, .mv (.t 12), none⟩),
  (1, ⟨some 84, .bin .gtr [] (.t 83) (.c (.int .i64 0)), none⟩),
  (2, ⟨some 85, .mv (.t 84), none⟩),
  (3, ⟨some 86, .mv (.t 3), some (85, true)⟩),
  (4, ⟨some 87, .mv (.t 12), some (85, true)⟩),
  (5, ⟨some 88, .ia none 2 (.t 86) (.t 87), some (85, true)⟩),
  (6, ⟨some 89, .fa 0 (.t 88), some (85, true)⟩),
  (7, ⟨some 90, .ld none (.t 89), some (85, true)⟩),
  (8, ⟨some 91, .mv (.t 3), some (85, true)⟩),
  (9, ⟨some 92, .mv (.t 12), some (85, true)⟩),
  (10, ⟨some 93, .bin .sub [] (.t 92) (.c (.int .i64 1)), some (85, true)⟩),
  (11, ⟨some 94, .ia none 2 (.t 91) (.t 93), some (85, true)⟩),
  (12, ⟨some 95, .fa 0 (.t 94), some (85, true)⟩),
  (13, ⟨some 96, .ld none (.t 95), some (85, true)⟩),
  (14, ⟨some 97, .bin .leq [] (.t 90) (.t 96), some (85, true)⟩),
  (15, ⟨some 98, .pick (.t 85) (.t 97) (.c (.bool false)), none⟩)] [])
 (.cond (.t 98)
 (.seq (.reg [⟨some 8, .mv (.c .nilp), none⟩,
  ⟨some 9, .mv (.c (.int .i64 1)), none⟩])
 (.ret))
 (.skip)))))
 (.reg [⟨some 59, .mv (.t 12), none⟩,
  ⟨some 60, .bin .add [] (.t 59) (.c (.int .i64 1)), none⟩,
  ⟨some 12, .mv (.t 60), none⟩]))))))
 (.seq (.reg [⟨some 99, .mv (.t 0), none⟩,
  ⟨some 100, .mv (.t 2), none⟩,
  ⟨some 101, .mv (.t 1), none⟩,
  ⟨some 102, .bld [(.int .u64 0), (.int .u64 0), (.int .i64 0), .nils] [(0, 1, (.t 99)), (1, 1, (.t 100)), (2, 1, (.t 101))], none⟩,
  ⟨some 103, .bx none 4 (.t 102), none⟩,
  ⟨some 13, .mv (.t 103), none⟩])
 (.seq (.reg [⟨some 104, .mv (.t 13), none⟩,
  ⟨some 105, .mv (.t 13), none⟩,
  ⟨some 106, .nc (.t 105), none⟩,
  ⟨some 107, .fa 3 (.t 106), none⟩,
  ⟨some 108, .ld none (.t 107), none⟩,
  ⟨some 109, .mv (.t 3), none⟩,
  ⟨some 110, .app (.ints .i64 [0, 0]) 16 (.t 108) (.t 109), none⟩,
  ⟨some 111, .nc (.t 104), none⟩,
  ⟨some 112, .fa 3 (.t 111), none⟩,
  ⟨none, .st 1 (.t 112) (.t 110), none⟩])
 (.seq (.reg [⟨some 113, .mv (.t 13), none⟩,
  ⟨some 8, .mv (.t 113), none⟩,
  ⟨some 9, .mv (.c (.int .i64 0)), none⟩])
 (.ret))))))))),
 [.tmp 8, .tmp 9], true⟩
/-- (*ephemeris/ephemerisref30.Sky).Ticks -/
def M21 : MFunc := ⟨.seq (.reg [⟨some 4, .mv (.c (.int .u64 0)), none⟩])
 (.seq (.reg [⟨some 13, .mv (.t 1), none⟩,
  ⟨some 14, .call 62 [(.t 13)], none⟩,
  ⟨some 1, .mv (.t 14), none⟩])
 (.seq (.reg [⟨some 15, .call 63 [(.c (.int .i64 0))], none⟩,
  ⟨some 5, .al (.vals [(.bool false), .nils]), none⟩,
  ⟨none, .st 2 (.t 5) (.t 15), none⟩])
 (.seq (.seq (.reg [⟨some 6, .mv (.c (.int .i64 0)), none⟩])
 (.block 0 [5]
 (.loop [0, 1, 5, 6]
 (.seq (.seq (.reg [⟨some 16, .mv (.t 6), none⟩,
  ⟨some 17, .mv (.t 0), none⟩,
  ⟨some 18, .nc (.t 17), none⟩,
  ⟨some 19, .fa 3 (.t 18), none⟩,
  ⟨some 20, .ld none (.t 19), none⟩,
  ⟨some 21, .len none (.t 20), none⟩,
  ⟨some 22, .bin .lss [] (.t 16) (.t 21), none⟩])
 (.cond (.t 22)
 (.skip)
 (.exit 0)))
 (.seq (.block 1 [0, 1, 5, 6]
 (.seq (.reg [⟨some 25, .mv (.t 1), none⟩,
  ⟨some 7, .mv (.t 25), none⟩])
 (.seq (.seq (.reg [⟨some 26, .mv (.t 6), none⟩,
  ⟨some 27, .bin .add [] (.t 26) (.c (.int .i64 1)), none⟩,
  ⟨some 28, .mv (.t 0), none⟩,
  ⟨some 29, .nc (.t 28), none⟩,
  ⟨some 30, .fa 3 (.t 29), none⟩,
  ⟨some 31, .ld none (.t 30), none⟩,
  ⟨some 32, .len none (.t 31), none⟩,
  ⟨some 33, .bin .lss [] (.t 27) (.t 32), none⟩,
  ⟨some 34, .mv (.t 33), none⟩,
  ⟨some 35, .mv (.t 0), some (34, true)⟩,
  ⟨some 36, .nc (.t 35), some (34, true)⟩,
  ⟨some 37, .fa 3 (.t 36), some (34, true)⟩,
  ⟨some 38, .ld none (.t 37), some (34, true)⟩,
  ⟨some 39, .mv (.t 6), some (34, true)⟩,
  ⟨some 40, .bin .add [] (.t 39) (.c (.int .i64 1)), some (34, true)⟩,
  ⟨some 41, .ia none 2 (.t 38) (.t 40), some (34, true)⟩,
  ⟨some 42, .fa 0 (.t 41), some (34, true)⟩,
  ⟨some 43, .ld none (.t 42), some (34, true)⟩,
  ⟨some 44, .mv (.t 1), some (34, true)⟩,
  ⟨some 45, .bin .lss [] (.t 43) (.t 44), some (34, true)⟩,
  ⟨some 46, .pick (.t 34) (.t 45) (.c (.bool false)), none⟩])
 (.cond (.t 46)
 (.reg [⟨some 47, .mv (.t 0), none⟩,
  ⟨some 48, .nc (.t 47), none⟩,
  ⟨some 49, .fa 3 (.t 48), none⟩,
  ⟨some 50, .ld none (.t 49), none⟩,
  ⟨some 51, .mv (.t 6), none⟩,
  ⟨some 52, .bin .add [] (.t 51) (.c (.int .i64 1)), none⟩,
  ⟨some 53, .ia none 2 (.t 50) (.t 52), none⟩,
  ⟨some 54, .fa 0 (.t 53), none⟩,
  ⟨some 55, .ld none (.t 54), none⟩,
  ⟨some 7, .mv (.t 55), none⟩])
 (.skip)))
 (.seq (.seq (.reg [⟨some 56, .mv (.t 7), none⟩,
  ⟨some 57, .mv (.t 0), none⟩,
  ⟨some 58, .nc (.t 57), none⟩,
  ⟨some 59, .fa 3 (.t 58), none⟩,
  ⟨some 60, .ld none (.t 59), none⟩,
  ⟨some 61, .mv (.t 6), none⟩,
  ⟨some 62, .ia none 2 (.t 60) (.t 61), none⟩,
  ⟨some 63, .fa 0 (.t 62), none⟩,
  ⟨some 64, .ld none (.t 63), none⟩,
  ⟨some 65, .bin .leq [] (.t 56) (.t 64), none⟩])
 (.cond (.t 65)
 (.exit 1)
 (.skip)))
 (.seq (.regd [(0, ⟨some 66, .mv (.t 7), none⟩),
  (1, ⟨some 67, .mv (.t 0), none⟩),
  (2, ⟨some 68, .nc (.t 67), none⟩),
  (3, ⟨some 69, .fa 3 (.t 68), none⟩),
  (4, ⟨some 70, .ld none (.t 69), none⟩),
  (5, ⟨some 71, .mv (.t 6), none⟩),
  (6, ⟨some 72, .ia none 2 (.t 70) (.t 71), none⟩),
  (7, ⟨some 73, .fa 0 (.t 72), none⟩),
  (8, ⟨some 74, .ld none (.t 73), none⟩),
  (9, ⟨some 75, .bin .sub [] (.t 66) (.t 74), none⟩),
  (10, ⟨some 76, .call 63 [(.t 75)], none⟩),
  (11, ⟨some 77, .mv (.t 0), none⟩),
  (12, ⟨some 78, .nc (.t 77), none⟩),
  (13, ⟨some 79, .fa 3 (.t 78), none⟩),
  (14, ⟨some 80, .ld none (.t 79), none⟩),
  (15, ⟨some 81, .mv (.t 6), none⟩),
  (16, ⟨some 82, .ia none 2 (.t 80) (.t 81), none⟩),
  (17, ⟨some 83, .fa 1 (.t 82), none⟩),
  (18, ⟨some 84, .ld none (.t 83), none⟩),
  (19, ⟨some 85, .bin .add [] (.c (.int .i64 1000000000)) (.t 84), none⟩),
  (20, ⟨some 86, .call 63 [(.t 85)], none⟩),
  (21, ⟨some 87, .call 64 [(.t 76), (.t 86)], none⟩),
  (22, ⟨some 8, .al (.vals [(.bool false), .nils]), none⟩),
  (23, ⟨none, .st 2 (.t 8) (.t 87), none⟩)] [(14, 10), (18, 10)])
 (.regd [(0, ⟨some 88, .ld (some 2) (.t 5), none⟩),
  (1, ⟨some 89, .ld (some 2) (.t 8), none⟩),
  (2, ⟨some 90, .mv (.t 0), none⟩),
  (3, ⟨some 91, .nc (.t 90), none⟩),
  (4, ⟨some 92, .fa 0 (.t 91), none⟩),
  (5, ⟨some 93, .ld none (.t 92), none⟩),
  (6, ⟨some 94, .ci .i64 (.t 93), none⟩),
  (7, ⟨some 95, .call 63 [(.t 94)], none⟩),
  (8, ⟨some 96, .call 64 [(.t 89), (.t 95)], none⟩),
  (9, ⟨some 97, .call 65 [(.t 88), (.t 96)], none⟩),
  (10, ⟨none, .st 2 (.t 5) (.t 97), none⟩)] [(0, 7), (0, 8), (1, 7)]))))))
 (.reg [⟨some 23, .mv (.t 6), none⟩,
  ⟨some 24, .bin .add [] (.t 23) (.c (.int .i64 1)), none⟩,
  ⟨some 6, .mv (.t 24), none⟩]))))))
 (.seq (.regd [(0, ⟨some 99, .fa 1 (.t 5), none⟩),
  (1, ⟨some 100, .ld none (.t 99), none⟩),
  (2, ⟨some 101, .call 63 [(.c (.int .i64 1000000000000000000))], none⟩),
  (3, ⟨some 102, .fld 1 none (.t 101), none⟩),
  (4, ⟨some 103, .call 66 [(.t 100), (.t 102)], none⟩),
  (5, ⟨some 98, .mv (.t 103), none⟩),
  (6, ⟨some 104, .ex 0 (.t 98), none⟩),
  (7, ⟨some 105, .ex 1 (.t 98), none⟩),
  (8, ⟨some 9, .mv (.t 104), none⟩),
  (9, ⟨some 10, .mv (.t 105), none⟩)] [(1, 2)])
 (.seq (.reg [⟨some 107, .mv (.t 9), none⟩,
  ⟨some 108, .bld [(.bool false), .nils] [(1, 1, (.t 107))], none⟩,
  ⟨some 109, .call 67 [(.t 108)], none⟩,
  ⟨some 106, .mv (.t 109), none⟩,
  ⟨some 110, .ex 0 (.t 106), none⟩,
  ⟨some 111, .ex 1 (.t 106), none⟩,
  ⟨some 11, .mv (.t 110), none⟩,
  ⟨some 12, .mv (.t 111), none⟩])
 (.seq (.reg [⟨some 112, .mv (.t 11), none⟩,
  ⟨some 113, .ci .u64 (.t 112), none⟩,
  ⟨some 4, .mv (.t 113), none⟩])
 (.ret))))))),
 [.tmp 4], true⟩
/-- (*ephemeris/ephemerisref30.Sky).When -/
def M22 : MFunc := ⟨.seq (.reg [⟨some 4, .mv (.c (.int .i64 0)), none⟩,
  ⟨some 5, .mv (.c (.bool false)), none⟩])
 (.seq (.seq (.reg [⟨some 9, .mv (.t 0), none⟩,
  ⟨some 10, .call 21 [(.t 9), (.c (.int .i64 4503599627370496))], none⟩,
  ⟨some 11, .mv (.t 1), none⟩,
  ⟨some 12, .bin .lss [] (.t 10) (.t 11), none⟩])
 (.cond (.t 12)
 (.seq (.reg [⟨some 4, .mv (.c (.int .i64 0)), none⟩,
  ⟨some 5, .mv (.c (.bool false)), none⟩])
 (.ret))
 (.skip)))
 (.seq (.reg [⟨some 6, .mv (.c (.int .i64 (-1))), none⟩])
 (.seq (.reg [⟨some 7, .mv (.c (.int .i64 4503599627370496)), none⟩])
 (.seq (.block 0 [7]
 (.loop [0, 1, 6, 7]
 (.seq (.seq (.reg [⟨some 13, .mv (.t 7), none⟩,
  ⟨some 14, .mv (.t 6), none⟩,
  ⟨some 15, .bin .sub [] (.t 13) (.t 14), none⟩,
  ⟨some 16, .bin .gtr [] (.t 15) (.c (.int .i64 1)), none⟩])
 (.cond (.t 16)
 (.skip)
 (.exit 0)))
 (.block 1 [0, 1, 6, 7]
 (.seq (.reg [⟨some 17, .mv (.t 6), none⟩,
  ⟨some 18, .mv (.t 7), none⟩,
  ⟨some 19, .bin .add [] (.t 17) (.t 18), none⟩,
  ⟨some 20, .bin .quo [] (.t 19) (.c (.int .i64 2)), none⟩,
  ⟨some 8, .mv (.t 20), none⟩])
 (.seq (.reg [⟨some 21, .mv (.t 0), none⟩,
  ⟨some 22, .mv (.t 8), none⟩,
  ⟨some 23, .call 21 [(.t 21), (.t 22)], none⟩,
  ⟨some 24, .mv (.t 1), none⟩,
  ⟨some 25, .bin .geq [] (.t 23) (.t 24), none⟩])
 (.cond (.t 25)
 (.reg [⟨some 26, .mv (.t 8), none⟩,
  ⟨some 7, .mv (.t 26), none⟩])
 (.reg [⟨some 27, .mv (.t 8), none⟩,
  ⟨some 6, .mv (.t 27), none⟩]))))))))
 (.seq (.reg [⟨some 28, .mv (.t 7), none⟩,
  ⟨some 4, .mv (.t 28), none⟩,
  ⟨some 5, .mv (.c (.bool true)), none⟩])
 (.ret)))))),
 [.tmp 4, .tmp 5], true⟩
/-- (*ephemeris/ephemerisref30.Sky).Read -/
def M23 : MFunc := ⟨.seq (.reg [⟨some 4, .mv (.c (.int .u64 0)), none⟩])
 (.seq (.regd [(0, ⟨some 8, .mv (.t 0), none⟩),
  (1, ⟨some 9, .nc (.t 8), none⟩),
  (2, ⟨some 10, .fa 1 (.t 9), none⟩),
  (3, ⟨some 11, .ld none (.t 10), none⟩),
  (4, ⟨some 12, .mv (.t 0), none⟩),
  (5, ⟨some 13, .mv (.t 1), none⟩),
  (6, ⟨some 14, .call 21 [(.t 12), (.t 13)], none⟩),
  (7, ⟨some 15, .bin .add [] (.t 11) (.t 14), none⟩),
  (8, ⟨some 5, .mv (.t 15), none⟩)] [(3, 6)])
 (.seq (.seq (.reg [⟨some 16, .mv (.t 0), none⟩,
  ⟨some 17, .nc (.t 16), none⟩,
  ⟨some 18, .fa 2 (.t 17), none⟩,
  ⟨some 19, .ld none (.t 18), none⟩,
  ⟨some 20, .bin .eql [] (.t 19) (.c (.int .i64 64)), none⟩])
 (.cond (.t 20)
 (.seq (.reg [⟨some 21, .mv (.t 5), none⟩,
  ⟨some 4, .mv (.t 21), none⟩])
 (.ret))
 (.skip)))
 (.seq (.reg [⟨some 6, .mv (.c (.int .u64 1)), none⟩])
 (.seq (.seq (.reg [⟨some 7, .mv (.c (.int .i64 0)), none⟩])
 (.block 0 [5, 6]
 (.loop [0, 5, 6, 7]
 (.seq (.seq (.reg [⟨some 22, .mv (.t 7), none⟩,
  ⟨some 23, .mv (.t 0), none⟩,
  ⟨some 24, .nc (.t 23), none⟩,
  ⟨some 25, .fa 2 (.t 24), none⟩,
  ⟨some 26, .ld none (.t 25), none⟩,
  ⟨some 27, .bin .lss [] (.t 22) (.t 26), none⟩])
 (.cond (.t 27)
 (.skip)
 (.exit 0)))
 (.seq (.block 1 [0, 5, 6, 7]
 (.reg [⟨some 30, .mv (.t 6), none⟩,
  ⟨some 31, .bin .mul [] (.t 30) (.c (.int .u64 2)), none⟩,
  ⟨some 6, .mv (.t 31), none⟩]))
 (.reg [⟨some 28, .mv (.t 7), none⟩,
  ⟨some 29, .bin .add [] (.t 28) (.c (.int .i64 1)), none⟩,
  ⟨some 7, .mv (.t 29), none⟩]))))))
 (.seq (.reg [⟨some 32, .mv (.t 5), none⟩,
  ⟨some 33, .mv (.t 6), none⟩,
  ⟨some 34, .bin .rem [] (.t 32) (.t 33), none⟩,
  ⟨some 4, .mv (.t 34), none⟩])
 (.ret)))))),
 [.tmp 4], true⟩
/-- (*ephemeris/ephemerisref30.Sky).Raw -/
def M24 : MFunc := ⟨.seq (.reg [⟨some 4, .mv (.c (.int .i64 0)), none⟩])
 (.seq (.regd [(0, ⟨some 8, .mv (.t 0), none⟩),
  (1, ⟨some 9, .mv (.t 1), none⟩),
  (2, ⟨some 10, .call 21 [(.t 8), (.t 9)], none⟩),
  (3, ⟨some 11, .ci .i64 (.t 10), none⟩),
  (4, ⟨some 12, .mv (.t 0), none⟩),
  (5, ⟨some 13, .nc (.t 12), none⟩),
  (6, ⟨some 14, .fa 0 (.t 13), none⟩),
  (7, ⟨some 15, .ld none (.t 14), none⟩),
  (8, ⟨some 16, .ci .i64 (.t 15), none⟩),
  (9, ⟨some 17, .call 68 [(.t 11), (.c (.int .i64 1000000000)), (.t 16), (.c (.bool false))], none⟩),
  (10, ⟨some 7, .mv (.t 17), none⟩),
  (11, ⟨some 18, .ex 0 (.t 7), none⟩),
  (12, ⟨some 19, .ex 1 (.t 7), none⟩),
  (13, ⟨some 5, .mv (.t 18), none⟩),
  (14, ⟨some 6, .mv (.t 19), none⟩)] [(7, 2)])
 (.seq (.reg [⟨some 20, .mv (.t 5), none⟩,
  ⟨some 4, .mv (.t 20), none⟩])
 (.ret))),
 [.tmp 4], true⟩
/-- (*ephemeris/sky.Sky).Off -/
def M25 : MFunc := ⟨.seq (.reg [⟨some 2, .bx none 1 (.t 0), none⟩,
  ⟨some 3, .bx (some .i64) 1 (.t 1), none⟩,
  ⟨some 4, .mv (.c (.int .i64 0)), none⟩])
 (.seq (.seq (.reg [⟨some 6, .ld none (.t 2), none⟩,
  ⟨some 7, .call 50 [(.t 6)], none⟩])
 (.cond (.t 7)
 (.seq (.reg [⟨some 4, .mv (.c (.int .i64 0)), none⟩])
 (.ret))
 (.skip)))
 (.seq (.reg [⟨some 8, .ld none (.t 3), none⟩,
  ⟨some 9, .call 51 [(.t 8)], none⟩,
  ⟨none, .st 1 (.t 3) (.t 9), none⟩])
 (.seq (.reg [⟨some 10, .ld none (.t 2), none⟩,
  ⟨some 11, .nc (.t 10), none⟩,
  ⟨some 12, .fa 3 (.t 11), none⟩,
  ⟨some 13, .ld none (.t 12), none⟩,
  ⟨some 14, .len none (.t 13), none⟩,
  ⟨some 15, .mf 69 [(.t 2), (.t 3)], none⟩,
  ⟨some 16, .call 56 [(.t 14), (.t 15)], none⟩,
  ⟨some 5, .mv (.t 16), none⟩])
 (.seq (.reg [⟨some 17, .ld none (.t 2), none⟩,
  ⟨some 18, .nc (.t 17), none⟩,
  ⟨some 19, .fa 3 (.t 18), none⟩,
  ⟨some 20, .ld none (.t 19), none⟩,
  ⟨some 21, .mv (.t 5), none⟩,
  ⟨some 22, .bin .sub [] (.t 21) (.c (.int .i64 1)), none⟩,
  ⟨some 23, .ia none 2 (.t 20) (.t 22), none⟩,
  ⟨some 24, .fa 1 (.t 23), none⟩,
  ⟨some 25, .ld none (.t 24), none⟩,
  ⟨some 4, .mv (.t 25), none⟩])
 (.ret))))),
 [.tmp 4], true⟩
/-- (*ephemeris/ephemerisref30.Sky).Off -/
def M26 : MFunc := ⟨.seq (.reg [⟨some 4, .mv (.c (.int .i64 0)), none⟩])
 (.seq (.reg [⟨some 5, .mv (.c (.int .i64 0)), none⟩])
 (.seq (.seq (.reg [⟨some 6, .mv (.c (.int .i64 0)), none⟩])
 (.block 0 [5]
 (.loop [0, 1, 5, 6]
 (.seq (.seq (.reg [⟨some 7, .mv (.t 6), none⟩,
  ⟨some 8, .mv (.t 0), none⟩,
  ⟨some 9, .nc (.t 8), none⟩,
  ⟨some 10, .fa 3 (.t 9), none⟩,
  ⟨some 11, .ld none (.t 10), none⟩,
  ⟨some 12, .len none (.t 11), none⟩,
  ⟨some 13, .bin .lss [] (.t 7) (.t 12), none⟩])
 (.cond (.t 13)
 (.skip)
 (.exit 0)))
 (.seq (.block 1 [0, 1, 5, 6]
 (.seq (.regd [(0, ⟨some 16, .mv (.t 0), none⟩),
  (1, ⟨some 17, .nc (.t 16), none⟩),
  (2, ⟨some 18, .fa 3 (.t 17), none⟩),
  (3, ⟨some 19, .ld none (.t 18), none⟩),
  (4, ⟨some 20, .mv (.t 6), none⟩),
  (5, ⟨some 21, .ia none 2 (.t 19) (.t 20), none⟩),
  (6, ⟨some 22, .fa 0 (.t 21), none⟩),
  (7, ⟨some 23, .ld none (.t 22), none⟩),
  (8, ⟨some 24, .mv (.t 1), none⟩),
  (9, ⟨some 25, .call 62 [(.t 24)], none⟩),
  (10, ⟨some 26, .bin .leq [] (.t 23) (.t 25), none⟩)] [(3, 9), (7, 9)])
 (.cond (.t 26)
 (.reg [⟨some 27, .mv (.t 0), none⟩,
  ⟨some 28, .nc (.t 27), none⟩,
  ⟨some 29, .fa 3 (.t 28), none⟩,
  ⟨some 30, .ld none (.t 29), none⟩,
  ⟨some 31, .mv (.t 6), none⟩,
  ⟨some 32, .ia none 2 (.t 30) (.t 31), none⟩,
  ⟨some 33, .fa 1 (.t 32), none⟩,
  ⟨some 34, .ld none (.t 33), none⟩,
  ⟨some 5, .mv (.t 34), none⟩])
 (.skip))))
 (.reg [⟨some 14, .mv (.t 6), none⟩,
  ⟨some 15, .bin .add [] (.t 14) (.c (.int .i64 1)), none⟩,
  ⟨some 6, .mv (.t 15), none⟩]))))))
 (.seq (.reg [⟨some 35, .mv (.t 5), none⟩,
  ⟨some 4, .mv (.t 35), none⟩])
 (.ret)))),
 [.tmp 4], true⟩
/-- (*ephemeris/sky.Sky).Worst -/
def M27 : MFunc := ⟨.seq (.reg [⟨some 2, .mv (.c (.int .i64 0)), none⟩])
 (.seq (.seq (.reg [⟨some 6, .mv (.t 0), none⟩,
  ⟨some 7, .call 50 [(.t 6)], none⟩])
 (.cond (.t 7)
 (.seq (.reg [⟨some 2, .mv (.c (.int .i64 0)), none⟩])
 (.ret))
 (.skip)))
 (.seq (.reg [⟨some 3, .mv (.c (.int .i64 0)), none⟩])
 (.seq (.seq (.reg [⟨some 8, .mv (.t 0), none⟩,
  ⟨some 9, .nc (.t 8), none⟩,
  ⟨some 10, .fa 3 (.t 9), none⟩,
  ⟨some 11, .ld none (.t 10), none⟩,
  ⟨some 12, .len none (.t 11), none⟩,
  ⟨some 13, .mv (.c (.int .i64 0)), none⟩])
 (.block 0 [3]
 (.loop [3, 11, 12, 13]
 (.seq (.reg [⟨some 14, .bin .lss [] (.t 13) (.t 12), none⟩])
 (.seq (.cond (.t 14)
 (.skip)
 (.exit 0))
 (.seq (.block 1 [3, 11, 12, 13]
 (.seq (.reg [⟨some 15, .ia none 2 (.t 11) (.t 13), none⟩,
  ⟨some 16, .ld (some 2) (.t 15), none⟩,
  ⟨some 5, .al (.ints .i64 [0, 0]), none⟩,
  ⟨none, .st 2 (.t 5) (.t 16), none⟩])
 (.reg [⟨some 17, .mv (.t 3), none⟩,
  ⟨some 18, .fa 1 (.t 5), none⟩,
  ⟨some 19, .ld none (.t 18), none⟩,
  ⟨some 20, .call 59 [(.t 19)], none⟩,
  ⟨some 21, .mnx true [(.t 17), (.t 20)], none⟩,
  ⟨some 3, .mv (.t 21), none⟩])))
 (.reg [⟨some 22, .bin .add [] (.t 13) (.c (.int .i64 1)), none⟩,
  ⟨some 13, .mv (.t 22), none⟩])))))))
 (.seq (.reg [⟨some 23, .mv (.t 3), none⟩,
  ⟨some 2, .mv (.t 23), none⟩])
 (.ret))))),
 [.tmp 2], true⟩
/-- (*ephemeris/ephemerisref30.Sky).Worst -/
def M28 : MFunc := ⟨.seq (.reg [⟨some 2, .mv (.c (.int .i64 0)), none⟩])
 (.seq (.reg [⟨some 3, .mv (.c (.int .i64 0)), none⟩])
 (.seq (.seq (.reg [⟨some 4, .mv (.c (.int .i64 0)), none⟩])
 (.block 0 [3]
 (.loop [0, 3, 4]
 (.seq (.seq (.reg [⟨some 5, .mv (.t 4), none⟩,
  ⟨some 6, .mv (.t 0), none⟩,
  ⟨some 7, .nc (.t 6), none⟩,
  ⟨some 8, .fa 3 (.t 7), none⟩,
  ⟨some 9, .ld none (.t 8), none⟩,
  ⟨some 10, .len none (.t 9), none⟩,
  ⟨some 11, .bin .lss [] (.t 5) (.t 10), none⟩])
 (.cond (.t 11)
 (.skip)
 (.exit 0)))
 (.seq (.block 1 [0, 3, 4]
 (.seq (.reg [⟨some 14, .mv (.t 0), none⟩,
  ⟨some 15, .nc (.t 14), none⟩,
  ⟨some 16, .fa 3 (.t 15), none⟩,
  ⟨some 17, .ld none (.t 16), none⟩,
  ⟨some 18, .mv (.t 4), none⟩,
  ⟨some 19, .ia none 2 (.t 17) (.t 18), none⟩,
  ⟨some 20, .fa 1 (.t 19), none⟩,
  ⟨some 21, .ld none (.t 20), none⟩,
  ⟨some 22, .call 70 [(.t 21)], none⟩,
  ⟨some 23, .mv (.t 3), none⟩,
  ⟨some 24, .bin .gtr [] (.t 22) (.t 23), none⟩])
 (.cond (.t 24)
 (.reg [⟨some 25, .mv (.t 0), none⟩,
  ⟨some 26, .nc (.t 25), none⟩,
  ⟨some 27, .fa 3 (.t 26), none⟩,
  ⟨some 28, .ld none (.t 27), none⟩,
  ⟨some 29, .mv (.t 4), none⟩,
  ⟨some 30, .ia none 2 (.t 28) (.t 29), none⟩,
  ⟨some 31, .fa 1 (.t 30), none⟩,
  ⟨some 32, .ld none (.t 31), none⟩,
  ⟨some 33, .call 70 [(.t 32)], none⟩,
  ⟨some 3, .mv (.t 33), none⟩])
 (.skip))))
 (.reg [⟨some 12, .mv (.t 4), none⟩,
  ⟨some 13, .bin .add [] (.t 12) (.c (.int .i64 1)), none⟩,
  ⟨some 4, .mv (.t 13), none⟩]))))))
 (.seq (.reg [⟨some 34, .mv (.t 3), none⟩,
  ⟨some 2, .mv (.t 34), none⟩])
 (.ret)))),
 [.tmp 2], true⟩
/-- ephemeris/scale.Tick -/
def M29 : MFunc := ⟨.seq (.reg [⟨some 2, .mv (.c (.int .i64 0)), none⟩])
 (.seq (.seq (.reg [⟨some 3, .mv (.t 0), none⟩,
  ⟨some 4, .bin .eql [] (.t 3) (.c (.int .u64 0)), none⟩,
  ⟨some 5, .mv (.t 4), none⟩,
  ⟨some 6, .mv (.t 0), some (5, false)⟩,
  ⟨some 7, .bin .gtr [] (.t 6) (.c (.int .u64 1000000000000)), some (5, false)⟩,
  ⟨some 8, .pick (.t 5) (.c (.bool true)) (.t 7), none⟩])
 (.cond (.t 8)
 (.seq (.reg [⟨some 2, .mv (.c (.int .i64 0)), none⟩])
 (.ret))
 (.skip)))
 (.seq (.reg [⟨some 9, .mv (.t 0), none⟩,
  ⟨some 10, .bin .add [] (.c (.int .u64 1000000000)) (.t 9), none⟩,
  ⟨some 11, .bin .sub [] (.t 10) (.c (.int .u64 1)), none⟩,
  ⟨some 12, .mv (.t 0), none⟩,
  ⟨some 13, .bin .quo [] (.t 11) (.t 12), none⟩,
  ⟨some 14, .ci .i64 (.t 13), none⟩,
  ⟨some 2, .mv (.t 14), none⟩])
 (.ret))),
 [.tmp 2], true⟩
/-- ephemeris/span.New -/
def M30 : MFunc := ⟨.seq (.reg [⟨some 4, .mv (.c .nilp), none⟩,
  ⟨some 5, .mv (.c (.int .i64 0)), none⟩])
 (.seq (.seq (.reg [⟨some 6, .mv (.t 0), none⟩,
  ⟨some 7, .bin .lss [] (.t 6) (.c (.int .i64 1)), none⟩,
  ⟨some 8, .mv (.t 7), none⟩,
  ⟨some 9, .mv (.t 0), some (8, false)⟩,
  ⟨some 10, .bin .gtr [] (.t 9) (.c (.int .i64 1000000000)), some (8, false)⟩,
  ⟨some 11, .pick (.t 8) (.c (.bool true)) (.t 10), none⟩,
  ⟨some 12, .mv (.t 11), none⟩,
  ⟨some 13, .mv (.t 1), some (12, false)⟩,
  ⟨some 14, .bin .lss [] (.t 13) (.c (.int .i64 0)), some (12, false)⟩,
  ⟨some 15, .pick (.t 12) (.c (.bool true)) (.t 14), none⟩,
  ⟨some 16, .mv (.t 15), none⟩,
  ⟨some 17, .mv (.t 1), some (16, false)⟩,
  ⟨some 18, .bin .gtr [] (.t 17) (.c (.int .i64 500000)), some (16, false)⟩,
  ⟨some 19, .pick (.t 16) (.c (.bool true)) (.t 18), none⟩])
 (.cond (.t 19)
 (.seq (.reg [⟨some 4, .mv (.c .nilp), none⟩,
  ⟨some 5, .mv (.c (.int .i64 1)), none⟩])
 (.ret))
 (.skip)))
 (.seq (.reg [⟨some 20, .mv (.t 0), none⟩,
  ⟨some 21, .mv (.t 1), none⟩,
  ⟨some 22, .bld [(.int .i64 0), (.int .i64 0), (.bool false)] [(0, 1, (.t 20)), (1, 1, (.t 21)), (2, 1, (.c (.bool true)))], none⟩,
  ⟨some 23, .bx none 3 (.t 22), none⟩,
  ⟨some 4, .mv (.t 23), none⟩,
  ⟨some 5, .mv (.c (.int .i64 0)), none⟩])
 (.ret))),
 [.tmp 4, .tmp 5], true⟩
/-- (*ephemeris/span.Ruler).Up -/
def M31 : MFunc := ⟨.seq (.reg [⟨some 4, .mv (.c (.int .i64 0)), none⟩])
 (.seq (.seq (.reg [⟨some 7, .mv (.t 0), none⟩,
  ⟨some 8, .call 71 [(.t 7)], none⟩])
 (.cond (.t 8)
 (.seq (.reg [⟨some 4, .mv (.c (.int .i64 0)), none⟩])
 (.ret))
 (.skip)))
 (.seq (.regd [(0, ⟨some 10, .mv (.t 1), none⟩),
  (1, ⟨some 11, .call 73 [(.t 10)], none⟩),
  (2, ⟨some 12, .mv (.t 0), none⟩),
  (3, ⟨some 13, .nc (.t 12), none⟩),
  (4, ⟨some 14, .fa 0 (.t 13), none⟩),
  (5, ⟨some 15, .ld none (.t 14), none⟩),
  (6, ⟨some 16, .bin .add [] (.t 11) (.t 15), none⟩),
  (7, ⟨some 17, .bin .add [] (.t 16) (.c (.int .i64 1)), none⟩),
  (8, ⟨some 18, .mv (.t 0), none⟩),
  (9, ⟨some 19, .nc (.t 18), none⟩),
  (10, ⟨some 20, .fa 1 (.t 19), none⟩),
  (11, ⟨some 21, .ld none (.t 20), none⟩),
  (12, ⟨some 22, .bin .sub [] (.c (.int .i64 1000000000)) (.t 21), none⟩),
  (13, ⟨some 23, .call 72 [(.t 17), (.c (.int .i64 1000000000)), (.t 22)], none⟩),
  (14, ⟨some 9, .mv (.t 23), none⟩),
  (15, ⟨some 24, .ex 0 (.t 9), none⟩),
  (16, ⟨some 25, .ex 1 (.t 9), none⟩),
  (17, ⟨some 5, .mv (.t 24), none⟩),
  (18, ⟨some 6, .mv (.t 25), none⟩)] [(5, 1), (11, 1)])
 (.seq (.seq (.reg [⟨some 26, .mv (.t 6), none⟩,
  ⟨some 27, .bin .neq [] (.t 26) (.c (.int .i64 0)), none⟩])
 (.cond (.t 27)
 (.seq (.reg [⟨some 4, .mv (.c (.int .i64 4611686018427387904)), none⟩])
 (.ret))
 (.skip)))
 (.seq (.reg [⟨some 28, .mv (.t 5), none⟩,
  ⟨some 29, .call 73 [(.t 28)], none⟩,
  ⟨some 4, .mv (.t 29), none⟩])
 (.ret))))),
 [.tmp 4], true⟩
/-- (*ephemeris/span.Ruler).Down -/
def M32 : MFunc := ⟨.seq (.reg [⟨some 4, .mv (.c (.int .i64 0)), none⟩])
 (.seq (.seq (.reg [⟨some 7, .mv (.t 0), none⟩,
  ⟨some 8, .call 71 [(.t 7)], none⟩])
 (.cond (.t 8)
 (.seq (.reg [⟨some 4, .mv (.c (.int .i64 0)), none⟩])
 (.ret))
 (.skip)))
 (.seq (.regd [(0, ⟨some 10, .mv (.t 1), none⟩),
  (1, ⟨some 11, .call 73 [(.t 10)], none⟩),
  (2, ⟨some 12, .mv (.t 0), none⟩),
  (3, ⟨some 13, .nc (.t 12), none⟩),
  (4, ⟨some 14, .fa 0 (.t 13), none⟩),
  (5, ⟨some 15, .ld none (.t 14), none⟩),
  (6, ⟨some 16, .bin .sub [] (.t 11) (.t 15), none⟩),
  (7, ⟨some 17, .bin .sub [] (.t 16) (.c (.int .i64 1)), none⟩),
  (8, ⟨some 18, .mv (.t 0), none⟩),
  (9, ⟨some 19, .nc (.t 18), none⟩),
  (10, ⟨some 20, .fa 1 (.t 19), none⟩),
  (11, ⟨some 21, .ld none (.t 20), none⟩),
  (12, ⟨some 22, .bin .add [] (.c (.int .i64 1000000000)) (.t 21), none⟩),
  (13, ⟨some 23, .call 74 [(.t 17), (.c (.int .i64 1000000000)), (.t 22)], none⟩),
  (14, ⟨some 9, .mv (.t 23), none⟩),
  (15, ⟨some 24, .ex 0 (.t 9), none⟩),
  (16, ⟨some 25, .ex 1 (.t 9), none⟩),
  (17, ⟨some 5, .mv (.t 24), none⟩),
  (18, ⟨some 6, .mv (.t 25), none⟩)] [(5, 1), (11, 1)])
 (.seq (.reg [⟨some 26, .mv (.t 5), none⟩,
  ⟨some 27, .call 73 [(.t 26)], none⟩,
  ⟨some 4, .mv (.t 27), none⟩])
 (.ret)))),
 [.tmp 4], true⟩
/-- ephemeris/filter.New -/
def M33 : MFunc := ⟨.seq (.reg [⟨some 4, .mv (.c .nilp), none⟩,
  ⟨some 5, .mv (.c (.int .i64 0)), none⟩])
 (.seq (.reg [⟨some 9, .mv (.t 0), none⟩,
  ⟨some 10, .mv (.t 1), none⟩,
  ⟨some 11, .call 30 [(.t 9), (.t 10)], none⟩,
  ⟨some 8, .mv (.t 11), none⟩,
  ⟨some 12, .ex 0 (.t 8), none⟩,
  ⟨some 13, .ex 1 (.t 8), none⟩,
  ⟨some 6, .mv (.t 12), none⟩,
  ⟨some 7, .mv (.t 13), none⟩])
 (.seq (.seq (.reg [⟨some 14, .mv (.t 7), none⟩,
  ⟨some 15, .bin .neq [] (.t 14) (.c (.int .i64 0)), none⟩])
 (.cond (.t 15)
 (.seq (.reg [⟨some 16, .mv (.t 7), none⟩,
  ⟨some 4, .mv (.c .nilp), none⟩,
  ⟨some 5, .mv (.t 16), none⟩])
 (.ret))
 (.skip)))
 (.seq (.reg [⟨some 17, .mv (.t 6), none⟩,
  ⟨some 18, .bld [.nilp, (.int .i64 0), (.int .i64 0), (.int .i64 0), (.int .i64 0), (.int .i64 0), (.int .i64 0), (.int .i64 0), (.int .i64 0), (.int .i64 0), (.int .i64 0), (.int .i64 0), (.int .i64 0), (.int .i64 0), (.int .i64 0), (.int .i64 0), (.int .i64 0), (.int .i64 0), (.int .i64 0), (.int .i64 0), (.int .i64 0), (.int .i64 0), (.int .i64 0), (.int .i64 0), (.int .i64 0), (.int .i64 0), (.int .i64 0), (.bool false)] [(0, 1, (.t 17)), (26, 1, (.c (.int .i64 (-1))))], none⟩,
  ⟨some 19, .bx none 28 (.t 18), none⟩,
  ⟨some 4, .mv (.t 19), none⟩,
  ⟨some 5, .mv (.c (.int .i64 0)), none⟩])
 (.ret)))),
 [.tmp 4, .tmp 5], true⟩
/-- (*ephemeris/filter.Filter).Put -/
def M34 : MFunc := ⟨.seq (.reg [⟨some 3, .bx (some .i64) 3 (.t 1), none⟩,
  ⟨some 4, .mv (.c (.int .i64 0)), none⟩])
 (.seq (.block 0 [0, 3]
 (.seq (.reg [⟨some 6, .mv (.t 0), none⟩,
  ⟨some 7, .call 75 [(.t 6)], none⟩,
  ⟨some 5, .mv (.t 7), none⟩])
 (.cond (.t 5)
 (.seq (.reg [⟨some 4, .mv (.c (.int .i64 2)), none⟩])
 (.ret))
 (.seq (.regd [(0, ⟨some 9, .ld (some 3) (.t 3), none⟩),
  (1, ⟨some 10, .call 76 [(.t 9)], none⟩),
  (2, ⟨some 11, .un .not (.t 10), none⟩),
  (3, ⟨some 12, .mv (.t 11), none⟩),
  (4, ⟨some 13, .mv (.t 0), some (12, false)⟩),
  (5, ⟨some 14, .nc (.t 13), some (12, false)⟩),
  (6, ⟨some 15, .fa 25 (.t 14), some (12, false)⟩),
  (7, ⟨some 16, .ld none (.t 15), some (12, false)⟩),
  (8, ⟨some 17, .bin .gtr [] (.t 16) (.c (.int .i64 0)), some (12, false)⟩),
  (9, ⟨some 18, .mv (.t 17), some (12, false)⟩),
  (10, ⟨some 19, .fa 0 (.t 3), some (18, true)⟩),
  (11, ⟨some 20, .ld none (.t 19), some (18, true)⟩),
  (12, ⟨some 21, .mv (.t 0), some (18, true)⟩),
  (13, ⟨some 22, .nc (.t 21), some (18, true)⟩),
  (14, ⟨some 23, .fa 1 (.t 22), some (18, true)⟩),
  (15, ⟨some 24, .ia (some 8) 3 (.t 23) (.c (.int .i64 0)), some (18, true)⟩),
  (16, ⟨some 25, .fa 0 (.t 24), some (18, true)⟩),
  (17, ⟨some 26, .ld none (.t 25), some (18, true)⟩),
  (18, ⟨some 27, .bin .lss [] (.t 20) (.t 26), some (18, true)⟩),
  (19, ⟨some 28, .pick (.t 18) (.t 27) (.c (.bool false)), some (12, false)⟩),
  (20, ⟨some 29, .pick (.t 12) (.c (.bool true)) (.t 28), none⟩),
  (21, ⟨some 8, .mv (.t 29), none⟩)] [])
 (.cond (.t 8)
 (.seq (.reg [⟨some 4, .mv (.c (.int .i64 1)), none⟩])
 (.ret))
 (.seq (.reg [⟨some 31, .mv (.t 0), none⟩,
  ⟨some 32, .ld (some 3) (.t 3), none⟩,
  ⟨some 33, .call 77 [(.t 31), (.t 32)], none⟩,
  ⟨some 34, .mv (.t 33), none⟩,
  ⟨some 35, .mv (.t 0), some (34, true)⟩,
  ⟨some 36, .nc (.t 35), some (34, true)⟩,
  ⟨some 37, .fa 27 (.t 36), some (34, true)⟩,
  ⟨some 38, .ld none (.t 37), some (34, true)⟩,
  ⟨some 39, .un .not (.t 38), some (34, true)⟩,
  ⟨some 40, .pick (.t 34) (.t 39) (.c (.bool false)), none⟩,
  ⟨some 30, .mv (.t 40), none⟩])
 (.cond (.t 30)
 (.seq (.reg [⟨some 41, .mv (.t 0), none⟩,
  ⟨some 42, .nc (.t 41), none⟩,
  ⟨some 43, .fa 27 (.t 42), none⟩,
  ⟨none, .st 1 (.t 43) (.c (.bool true)), none⟩])
 (.seq (.reg [⟨some 4, .mv (.c (.int .i64 35)), none⟩])
 (.ret)))
 (.skip))))))))
 (.seq (.regd [(0, ⟨some 44, .mv (.t 0), none⟩),
  (1, ⟨some 45, .nc (.t 44), none⟩),
  (2, ⟨some 46, .fa 1 (.t 45), none⟩),
  (3, ⟨some 47, .slc (some 8) 3 (.t 46) (some (.c (.int .i64 1))) none none, none⟩),
  (4, ⟨some 48, .mv (.t 0), none⟩),
  (5, ⟨some 49, .nc (.t 48), none⟩),
  (6, ⟨some 50, .fa 1 (.t 49), none⟩),
  (7, ⟨some 51, .slc (some 8) 3 (.t 50) none none none, none⟩),
  (8, ⟨some 52, .cpy 3 (.t 47) (.t 51), none⟩)] [])
 (.seq (.regd [(0, ⟨some 53, .mv (.t 0), none⟩),
  (1, ⟨some 54, .ld (some 3) (.t 3), none⟩),
  (2, ⟨some 55, .nc (.t 53), none⟩),
  (3, ⟨some 56, .fa 1 (.t 55), none⟩),
  (4, ⟨some 57, .ia (some 8) 3 (.t 56) (.c (.int .i64 0)), none⟩),
  (5, ⟨none, .st 3 (.t 57) (.t 54), none⟩)] [])
 (.seq (.reg [⟨some 58, .mv (.t 0), none⟩,
  ⟨some 59, .mv (.t 0), none⟩,
  ⟨some 60, .nc (.t 59), none⟩,
  ⟨some 61, .fa 25 (.t 60), none⟩,
  ⟨some 62, .ld none (.t 61), none⟩,
  ⟨some 63, .bin .add [] (.t 62) (.c (.int .i64 1)), none⟩,
  ⟨some 64, .mnx false [(.t 63), (.c (.int .i64 8))], none⟩,
  ⟨some 65, .nc (.t 58), none⟩,
  ⟨some 66, .fa 25 (.t 65), none⟩,
  ⟨none, .st 1 (.t 66) (.t 64), none⟩])
 (.seq (.reg [⟨some 67, .mv (.t 0), none⟩,
  ⟨some 68, .nc (.t 67), none⟩,
  ⟨some 69, .fa 27 (.t 68), none⟩,
  ⟨none, .st 1 (.t 69) (.c (.bool false)), none⟩])
 (.seq (.reg [⟨some 4, .mv (.c (.int .i64 0)), none⟩])
 (.ret))))))),
 [.tmp 4], true⟩
/-- (*ephemeris/filter.Filter).Best -/
def M35 : MFunc := ⟨.seq (.reg [⟨some 4, .al (.ints .i64 [0, 0, 0]), none⟩,
  ⟨some 5, .mv (.c (.bool false)), none⟩])
 (.seq (.reg [⟨some 9, .mv (.t 0), none⟩,
  ⟨some 10, .mv (.t 1), none⟩,
  ⟨some 11, .call 78 [(.t 9), (.t 10)], none⟩,
  ⟨some 8, .mv (.t 11), none⟩,
  ⟨some 12, .ex 0 (.t 8), none⟩,
  ⟨some 13, .ex 1 (.t 8), none⟩,
  ⟨some 6, .mv (.t 12), none⟩,
  ⟨some 7, .mv (.t 13), none⟩])
 (.seq (.seq (.reg [⟨some 14, .mv (.t 7), none⟩,
  ⟨some 15, .un .not (.t 14), none⟩])
 (.cond (.t 15)
 (.seq (.reg [⟨some 16, .bld [(.int .i64 0), (.int .i64 0), (.int .i64 0)] [], none⟩,
  ⟨none, .st 3 (.t 4) (.t 16), none⟩,
  ⟨some 5, .mv (.c (.bool false)), none⟩])
 (.ret))
 (.skip)))
 (.seq (.reg [⟨some 17, .mv (.t 6), none⟩,
  ⟨some 18, .mv (.t 6), none⟩,
  ⟨some 19, .call 79 [(.t 18)], none⟩,
  ⟨some 20, .ia none 3 (.t 17) (.t 19), none⟩,
  ⟨some 21, .ld (some 3) (.t 20), none⟩,
  ⟨none, .st 3 (.t 4) (.t 21), none⟩,
  ⟨some 5, .mv (.c (.bool true)), none⟩])
 (.ret)))),
 [.cell 4 (some 3), .tmp 5], true⟩
/-- ephemeris/span.Has -/
def M36 : MFunc := ⟨.seq (.reg [⟨some 2, .bx (some .i64) 3 (.t 0), none⟩,
  ⟨some 4, .mv (.c (.bool false)), none⟩])
 (.seq (.reg [⟨some 5, .ld (some 3) (.t 2), none⟩,
  ⟨some 6, .call 76 [(.t 5)], none⟩,
  ⟨some 7, .mv (.t 6), none⟩,
  ⟨some 8, .mv (.t 1), some (7, true)⟩,
  ⟨some 9, .fa 1 (.t 2), some (7, true)⟩,
  ⟨some 10, .ld none (.t 9), some (7, true)⟩,
  ⟨some 11, .bin .geq [] (.t 8) (.t 10), some (7, true)⟩,
  ⟨some 12, .pick (.t 7) (.t 11) (.c (.bool false)), none⟩,
  ⟨some 13, .mv (.t 12), none⟩,
  ⟨some 14, .mv (.t 1), some (13, true)⟩,
  ⟨some 15, .fa 2 (.t 2), some (13, true)⟩,
  ⟨some 16, .ld none (.t 15), some (13, true)⟩,
  ⟨some 17, .bin .leq [] (.t 14) (.t 16), some (13, true)⟩,
  ⟨some 18, .pick (.t 13) (.t 17) (.c (.bool false)), none⟩,
  ⟨some 4, .mv (.t 18), none⟩])
 (.ret)),
 [.tmp 4], true⟩
/-- (*ephemeris/span.Ruler).Age -/
def M37 : MFunc := ⟨.seq (.reg [⟨some 4, .bx (some .i64) 3 (.t 1), none⟩,
  ⟨some 6, .al (.ints .i64 [0, 0, 0]), none⟩,
  ⟨some 7, .mv (.c (.int .i64 0)), none⟩])
 (.seq (.block 0 [0, 2, 4, 6]
 (.seq (.reg [⟨some 10, .mv (.t 0), none⟩,
  ⟨some 11, .call 71 [(.t 10)], none⟩,
  ⟨some 9, .mv (.t 11), none⟩])
 (.cond (.t 9)
 (.seq (.reg [⟨some 12, .bld [(.int .i64 0), (.int .i64 0), (.int .i64 0)] [], none⟩,
  ⟨none, .st 3 (.t 6) (.t 12), none⟩,
  ⟨some 7, .mv (.c (.int .i64 2)), none⟩])
 (.ret))
 (.seq (.reg [⟨some 14, .ld (some 3) (.t 4), none⟩,
  ⟨some 15, .call 76 [(.t 14)], none⟩,
  ⟨some 16, .un .not (.t 15), none⟩,
  ⟨some 17, .mv (.t 16), none⟩,
  ⟨some 18, .mv (.t 2), some (17, false)⟩,
  ⟨some 19, .fa 0 (.t 4), some (17, false)⟩,
  ⟨some 20, .ld none (.t 19), some (17, false)⟩,
  ⟨some 21, .bin .lss [] (.t 18) (.t 20), some (17, false)⟩,
  ⟨some 22, .pick (.t 17) (.c (.bool true)) (.t 21), none⟩,
  ⟨some 23, .mv (.t 22), none⟩,
  ⟨some 24, .mv (.t 2), some (23, false)⟩,
  ⟨some 25, .bin .gtr [] (.t 24) (.c (.int .i64 4611686018427387904)), some (23, false)⟩,
  ⟨some 26, .pick (.t 23) (.c (.bool true)) (.t 25), none⟩,
  ⟨some 13, .mv (.t 26), none⟩])
 (.cond (.t 13)
 (.seq (.reg [⟨some 27, .bld [(.int .i64 0), (.int .i64 0), (.int .i64 0)] [], none⟩,
  ⟨none, .st 3 (.t 6) (.t 27), none⟩,
  ⟨some 7, .mv (.c (.int .i64 1)), none⟩])
 (.ret))
 (.skip))))))
 (.seq (.reg [⟨some 28, .mv (.t 2), none⟩,
  ⟨some 29, .fa 0 (.t 4), none⟩,
  ⟨some 30, .ld none (.t 29), none⟩,
  ⟨some 31, .bin .sub [] (.t 28) (.t 30), none⟩,
  ⟨some 8, .mv (.t 31), none⟩])
 (.seq (.regd [(0, ⟨some 32, .mv (.t 2), none⟩),
  (1, ⟨some 33, .fa 1 (.t 4), none⟩),
  (2, ⟨some 34, .ld none (.t 33), none⟩),
  (3, ⟨some 35, .mv (.t 0), none⟩),
  (4, ⟨some 36, .mv (.t 8), none⟩),
  (5, ⟨some 37, .call 32 [(.t 35), (.t 36)], none⟩),
  (6, ⟨some 38, .bld [(.int .i64 0), (.int .i64 0)] [(0, 1, (.t 34)), (1, 1, (.t 37))], none⟩),
  (7, ⟨some 39, .fa 2 (.t 4), none⟩),
  (8, ⟨some 40, .ld none (.t 39), none⟩),
  (9, ⟨some 41, .mv (.t 0), none⟩),
  (10, ⟨some 42, .mv (.t 8), none⟩),
  (11, ⟨some 43, .call 31 [(.t 41), (.t 42)], none⟩),
  (12, ⟨some 44, .bld [(.int .i64 0), (.int .i64 0)] [(0, 1, (.t 40)), (1, 1, (.t 43))], none⟩),
  (13, ⟨some 45, .bld [(.int .i64 0), (.int .i64 0), (.int .i64 0), (.int .i64 0)] [(0, 2, (.t 38)), (2, 2, (.t 44))], none⟩),
  (14, ⟨some 46, .call 80 [(.t 32), (.t 45)], none⟩),
  (15, ⟨none, .st 3 (.t 6) (.t 46), none⟩),
  (16, ⟨some 7, .mv (.c (.int .i64 0)), none⟩)] [(2, 5), (2, 11), (8, 5), (8, 11)])
 (.ret)))),
 [.cell 6 (some 3), .tmp 7], true⟩
/-- ephemeris/span.Width -/
def M38 : MFunc := ⟨.seq (.reg [⟨some 1, .bx (some .i64) 3 (.t 0), none⟩,
  ⟨some 2, .mv (.c (.int .i64 0)), none⟩])
 (.seq (.seq (.reg [⟨some 3, .ld (some 3) (.t 1), none⟩,
  ⟨some 4, .call 76 [(.t 3)], none⟩,
  ⟨some 5, .un .not (.t 4), none⟩])
 (.cond (.t 5)
 (.seq (.reg [⟨some 2, .mv (.c (.int .i64 0)), none⟩])
 (.ret))
 (.skip)))
 (.seq (.reg [⟨some 6, .fa 2 (.t 1), none⟩,
  ⟨some 7, .ld none (.t 6), none⟩,
  ⟨some 8, .fa 1 (.t 1), none⟩,
  ⟨some 9, .ld none (.t 8), none⟩,
  ⟨some 10, .bin .sub [] (.t 7) (.t 9), none⟩,
  ⟨some 2, .mv (.t 10), none⟩])
 (.ret))),
 [.tmp 2], true⟩
/-- (*ephemeris/filter.Filter).Use -/
def M39 : MFunc := ⟨.seq (.reg [⟨some 4, .al (.ints .i64 [0, 0, 0]), none⟩,
  ⟨some 5, .mv (.c (.bool false)), none⟩])
 (.seq (.reg [⟨some 10, .mv (.t 0), none⟩,
  ⟨some 11, .mv (.t 1), none⟩,
  ⟨some 12, .call 78 [(.t 10), (.t 11)], none⟩,
  ⟨some 9, .mv (.t 12), none⟩,
  ⟨some 13, .ex 0 (.t 9), none⟩,
  ⟨some 14, .ex 1 (.t 9), none⟩,
  ⟨some 6, .mv (.t 13), none⟩,
  ⟨some 7, .mv (.t 14), none⟩])
 (.seq (.seq (.reg [⟨some 15, .mv (.t 7), none⟩,
  ⟨some 16, .un .not (.t 15), none⟩])
 (.cond (.t 16)
 (.seq (.reg [⟨some 17, .bld [(.int .i64 0), (.int .i64 0), (.int .i64 0)] [], none⟩,
  ⟨none, .st 3 (.t 4) (.t 17), none⟩,
  ⟨some 5, .mv (.c (.bool false)), none⟩])
 (.ret))
 (.skip)))
 (.seq (.reg [⟨some 18, .mv (.t 6), none⟩,
  ⟨some 19, .call 79 [(.t 18)], none⟩,
  ⟨some 8, .mv (.t 19), none⟩])
 (.seq (.seq (.regd [(0, ⟨some 20, .mv (.t 0), none⟩),
  (1, ⟨some 21, .mv (.t 8), none⟩),
  (2, ⟨some 22, .nc (.t 20), none⟩),
  (3, ⟨some 23, .fa 1 (.t 22), none⟩),
  (4, ⟨some 24, .ia (some 8) 3 (.t 23) (.t 21), none⟩),
  (5, ⟨some 25, .fa 0 (.t 24), none⟩),
  (6, ⟨some 26, .ld none (.t 25), none⟩),
  (7, ⟨some 27, .mv (.t 0), none⟩),
  (8, ⟨some 28, .nc (.t 27), none⟩),
  (9, ⟨some 29, .fa 26 (.t 28), none⟩),
  (10, ⟨some 30, .ld none (.t 29), none⟩),
  (11, ⟨some 31, .bin .leq [] (.t 26) (.t 30), none⟩)] [])
 (.cond (.t 31)
 (.seq (.reg [⟨some 32, .bld [(.int .i64 0), (.int .i64 0), (.int .i64 0)] [], none⟩,
  ⟨none, .st 3 (.t 4) (.t 32), none⟩,
  ⟨some 5, .mv (.c (.bool false)), none⟩])
 (.ret))
 (.skip)))
 (.seq (.reg [⟨some 33, .mv (.t 0), none⟩,
  ⟨some 34, .mv (.t 0), none⟩,
  ⟨some 35, .mv (.t 8), none⟩,
  ⟨some 36, .nc (.t 34), none⟩,
  ⟨some 37, .fa 1 (.t 36), none⟩,
  ⟨some 38, .ia (some 8) 3 (.t 37) (.t 35), none⟩,
  ⟨some 39, .fa 0 (.t 38), none⟩,
  ⟨some 40, .ld none (.t 39), none⟩,
  ⟨some 41, .nc (.t 33), none⟩,
  ⟨some 42, .fa 26 (.t 41), none⟩,
  ⟨none, .st 1 (.t 42) (.t 40), none⟩])
 (.seq (.reg [⟨some 43, .mv (.t 6), none⟩,
  ⟨some 44, .mv (.t 8), none⟩,
  ⟨some 45, .ia none 3 (.t 43) (.t 44), none⟩,
  ⟨some 46, .ld (some 3) (.t 45), none⟩,
  ⟨none, .st 3 (.t 4) (.t 46), none⟩,
  ⟨some 5, .mv (.c (.bool true)), none⟩])
 (.ret))))))),
 [.cell 4 (some 3), .tmp 5], true⟩
/-- ephemeris/ephemerislaw20.alive -/
def M40 : MFunc := ⟨.seq (.reg [⟨some 0, .mv (.c (.bool false)), none⟩])
 (.seq (.reg [⟨some 12, .call 33 [(.c (.int .i64 1)), (.c (.int .i64 0))], none⟩,
  ⟨some 11, .mv (.t 12), none⟩,
  ⟨some 13, .ex 0 (.t 11), none⟩,
  ⟨some 14, .ex 1 (.t 11), none⟩,
  ⟨some 1, .mv (.t 13), none⟩,
  ⟨some 2, .mv (.t 14), none⟩])
 (.seq (.seq (.reg [⟨some 15, .mv (.t 2), none⟩,
  ⟨some 16, .bin .neq [] (.t 15) (.c (.int .i64 0)), none⟩])
 (.cond (.t 16)
 (.seq (.reg [⟨some 0, .mv (.c (.bool false)), none⟩])
 (.ret))
 (.skip)))
 (.seq (.reg [⟨some 17, .mv (.t 1), none⟩,
  ⟨some 18, .bld [(.int .i64 0), (.int .i64 0), (.int .i64 0)] [(0, 1, (.c (.int .i64 0))), (1, 1, (.c (.int .i64 100))), (2, 1, (.c (.int .i64 120)))], none⟩,
  ⟨some 19, .call 34 [(.t 17), (.t 18)], none⟩,
  ⟨some 20, .mv (.t 1), none⟩,
  ⟨some 21, .bld [(.int .i64 0), (.int .i64 0), (.int .i64 0)] [(0, 1, (.c (.int .i64 10))), (1, 1, (.c (.int .i64 112))), (2, 1, (.c (.int .i64 122)))], none⟩,
  ⟨some 22, .call 34 [(.t 20), (.t 21)], none⟩,
  ⟨some 3, .mv (.t 19), none⟩,
  ⟨some 4, .mv (.t 22), none⟩])
 (.seq (.reg [⟨some 24, .mv (.t 1), none⟩,
  ⟨some 25, .call 35 [(.t 24), (.c (.int .i64 10))], none⟩,
  ⟨some 23, .mv (.t 25), none⟩,
  ⟨some 26, .ex 0 (.t 23), none⟩,
  ⟨some 27, .ex 1 (.t 23), none⟩,
  ⟨some 5, .al (.ints .i64 [0, 0, 0]), none⟩,
  ⟨none, .st 3 (.t 5) (.t 26), none⟩,
  ⟨some 6, .mv (.t 27), none⟩])
 (.seq (.reg [⟨some 29, .mv (.t 1), none⟩,
  ⟨some 30, .call 39 [(.t 29), (.c (.int .i64 10))], none⟩,
  ⟨some 28, .mv (.t 30), none⟩,
  ⟨some 31, .ex 0 (.t 28), none⟩,
  ⟨some 32, .ex 1 (.t 28), none⟩,
  ⟨some 7, .al (.ints .i64 [0, 0, 0]), none⟩,
  ⟨none, .st 3 (.t 7) (.t 31), none⟩,
  ⟨some 8, .mv (.t 32), none⟩])
 (.seq (.reg [⟨some 34, .mv (.t 1), none⟩,
  ⟨some 35, .call 39 [(.t 34), (.c (.int .i64 10))], none⟩,
  ⟨some 33, .mv (.t 35), none⟩,
  ⟨some 36, .ex 0 (.t 33), none⟩,
  ⟨some 37, .ex 1 (.t 33), none⟩,
  ⟨some 9, .al (.ints .i64 [0, 0, 0]), none⟩,
  ⟨none, .st 3 (.t 9) (.t 36), none⟩,
  ⟨some 10, .mv (.t 37), none⟩])
 (.seq (.reg [⟨some 38, .mv (.t 3), none⟩,
  ⟨some 39, .bin .eql [] (.t 38) (.c (.int .i64 0)), none⟩,
  ⟨some 40, .mv (.t 39), none⟩,
  ⟨some 41, .mv (.t 4), some (40, true)⟩,
  ⟨some 42, .bin .eql [] (.t 41) (.c (.int .i64 0)), some (40, true)⟩,
  ⟨some 43, .pick (.t 40) (.t 42) (.c (.bool false)), none⟩,
  ⟨some 44, .mv (.t 43), none⟩,
  ⟨some 45, .mv (.t 6), some (44, true)⟩,
  ⟨some 46, .pick (.t 44) (.t 45) (.c (.bool false)), none⟩,
  ⟨some 47, .mv (.t 46), none⟩,
  ⟨some 48, .ld (some 3) (.t 5), some (47, true)⟩,
  ⟨some 49, .bld [(.int .i64 0), (.int .i64 0), (.int .i64 0)] [(0, 1, (.c (.int .i64 10))), (1, 1, (.c (.int .i64 112))), (2, 1, (.c (.int .i64 124)))], some (47, true)⟩,
  ⟨some 50, .bin .eql [5, 0, 0, 0] (.t 48) (.t 49), some (47, true)⟩,
  ⟨some 51, .pick (.t 47) (.t 50) (.c (.bool false)), none⟩,
  ⟨some 52, .mv (.t 51), none⟩,
  ⟨some 53, .mv (.t 8), some (52, true)⟩,
  ⟨some 54, .pick (.t 52) (.t 53) (.c (.bool false)), none⟩,
  ⟨some 55, .mv (.t 54), none⟩,
  ⟨some 56, .mv (.t 10), some (55, true)⟩,
  ⟨some 57, .un .not (.t 56), some (55, true)⟩,
  ⟨some 58, .pick (.t 55) (.t 57) (.c (.bool false)), none⟩,
  ⟨some 0, .mv (.t 58), none⟩])
 (.ret)))))))),
 [.tmp 0], true⟩
/-- (*ephemeris/filter.Filter).Row -/
def M41 : MFunc := ⟨.seq (.reg [⟨some 2, .mv (.c .nils), none⟩])
 (.seq (.seq (.reg [⟨some 3, .mv (.t 0), none⟩,
  ⟨some 4, .call 75 [(.t 3)], none⟩])
 (.cond (.t 4)
 (.seq (.reg [⟨some 2, .mv (.c .nils), none⟩])
 (.ret))
 (.skip)))
 (.seq (.regd [(0, ⟨some 5, .mv (.t 0), none⟩),
  (1, ⟨some 6, .nc (.t 5), none⟩),
  (2, ⟨some 7, .fa 1 (.t 6), none⟩),
  (3, ⟨some 8, .mv (.t 0), none⟩),
  (4, ⟨some 9, .nc (.t 8), none⟩),
  (5, ⟨some 10, .fa 25 (.t 9), none⟩),
  (6, ⟨some 11, .ld none (.t 10), none⟩),
  (7, ⟨some 12, .slc (some 8) 3 (.t 7) none (some (.t 11)) none, none⟩),
  (8, ⟨some 13, .call 81 [(.t 12)], none⟩),
  (9, ⟨some 2, .mv (.t 13), none⟩)] [])
 (.ret))),
 [.tmp 2], true⟩
/-- (*ephemeris/filter.Filter).Held -/
def M42 : MFunc := ⟨.seq (.reg [⟨some 2, .mv (.c (.bool false)), none⟩])
 (.seq (.reg [⟨some 3, .mv (.t 0), none⟩,
  ⟨some 4, .call 75 [(.t 3)], none⟩,
  ⟨some 5, .un .not (.t 4), none⟩,
  ⟨some 6, .mv (.t 5), none⟩,
  ⟨some 7, .mv (.t 0), some (6, true)⟩,
  ⟨some 8, .nc (.t 7), some (6, true)⟩,
  ⟨some 9, .fa 27 (.t 8), some (6, true)⟩,
  ⟨some 10, .ld none (.t 9), some (6, true)⟩,
  ⟨some 11, .pick (.t 6) (.t 10) (.c (.bool false)), none⟩,
  ⟨some 2, .mv (.t 11), none⟩])
 (.ret)),
 [.tmp 2], true⟩
/-- (*ephemeris/filter.Filter).Jitter -/
def M43 : MFunc := ⟨.seq (.reg [⟨some 4, .mv (.c (.int .i64 0)), none⟩])
 (.seq (.reg [⟨some 15, .mv (.t 0), none⟩,
  ⟨some 16, .mv (.t 1), none⟩,
  ⟨some 17, .call 78 [(.t 15), (.t 16)], none⟩,
  ⟨some 14, .mv (.t 17), none⟩,
  ⟨some 18, .ex 0 (.t 14), none⟩,
  ⟨some 19, .ex 1 (.t 14), none⟩,
  ⟨some 5, .mv (.t 18), none⟩,
  ⟨some 6, .mv (.t 19), none⟩])
 (.seq (.seq (.reg [⟨some 20, .mv (.t 6), none⟩,
  ⟨some 21, .un .not (.t 20), none⟩,
  ⟨some 22, .mv (.t 21), none⟩,
  ⟨some 23, .mv (.t 5), some (22, false)⟩,
  ⟨some 24, .len none (.t 23), some (22, false)⟩,
  ⟨some 25, .bin .lss [] (.t 24) (.c (.int .i64 2)), some (22, false)⟩,
  ⟨some 26, .pick (.t 22) (.c (.bool true)) (.t 25), none⟩])
 (.cond (.t 26)
 (.seq (.reg [⟨some 4, .mv (.c (.int .i64 0)), none⟩])
 (.ret))
 (.skip)))
 (.seq (.reg [⟨some 27, .mv (.t 5), none⟩,
  ⟨some 28, .call 79 [(.t 27)], none⟩,
  ⟨some 7, .mv (.t 28), none⟩])
 (.seq (.reg [⟨some 8, .mv (.c (.int .i64 0)), none⟩,
  ⟨some 9, .mv (.c (.int .i64 0)), none⟩])
 (.seq (.reg [⟨some 29, .mv (.t 5), none⟩,
  ⟨some 30, .len none (.t 29), none⟩,
  ⟨some 31, .bin .sub [] (.t 30) (.c (.int .i64 1)), none⟩,
  ⟨some 10, .mv (.t 31), none⟩])
 (.seq (.seq (.reg [⟨some 32, .mv (.t 5), none⟩,
  ⟨some 33, .len none (.t 32), none⟩,
  ⟨some 34, .mv (.c (.int .i64 0)), none⟩])
 (.block 0 [8, 9, 10]
 (.loop [5, 7, 8, 9, 10, 32, 33, 34]
 (.seq (.reg [⟨some 35, .bin .lss [] (.t 34) (.t 33), none⟩])
 (.seq (.cond (.t 35)
 (.skip)
 (.exit 0))
 (.seq (.block 1 [5, 7, 8, 9, 10, 32, 33, 34]
 (.seq (.reg [⟨some 36, .ia none 3 (.t 32) (.t 34), none⟩,
  ⟨some 37, .ld (some 3) (.t 36), none⟩,
  ⟨some 12, .al (.ints .i64 [0, 0, 0]), none⟩,
  ⟨none, .st 3 (.t 12) (.t 37), none⟩])
 (.seq (.regd [(0, ⟨some 38, .ld (some 3) (.t 12), none⟩),
  (1, ⟨some 39, .mv (.t 5), none⟩),
  (2, ⟨some 40, .mv (.t 7), none⟩),
  (3, ⟨some 41, .ia none 3 (.t 39) (.t 40), none⟩),
  (4, ⟨some 42, .ld (some 3) (.t 41), none⟩),
  (5, ⟨some 43, .call 82 [(.t 38), (.t 42)], none⟩),
  (6, ⟨some 13, .mv (.t 43), none⟩)] [])
 (.seq (.reg [⟨some 44, .mv (.t 8), none⟩,
  ⟨some 45, .mv (.t 13), none⟩,
  ⟨some 46, .mv (.t 10), none⟩,
  ⟨some 47, .bin .quo [] (.t 45) (.t 46), none⟩,
  ⟨some 48, .bin .add [] (.t 44) (.t 47), none⟩,
  ⟨some 8, .mv (.t 48), none⟩])
 (.reg [⟨some 49, .mv (.t 9), none⟩,
  ⟨some 50, .mv (.t 13), none⟩,
  ⟨some 51, .mv (.t 10), none⟩,
  ⟨some 52, .bin .rem [] (.t 50) (.t 51), none⟩,
  ⟨some 53, .bin .add [] (.t 49) (.t 52), none⟩,
  ⟨some 9, .mv (.t 53), none⟩])))))
 (.reg [⟨some 54, .bin .add [] (.t 34) (.c (.int .i64 1)), none⟩,
  ⟨some 34, .mv (.t 54), none⟩])))))))
 (.seq (.reg [⟨some 55, .mv (.t 8), none⟩,
  ⟨some 56, .mv (.t 9), none⟩,
  ⟨some 57, .mv (.t 10), none⟩,
  ⟨some 58, .bin .quo [] (.t 56) (.t 57), none⟩,
  ⟨some 59, .bin .add [] (.t 55) (.t 58), none⟩,
  ⟨some 4, .mv (.t 59), none⟩])
 (.ret)))))))),
 [.tmp 4], true⟩
/-- ephemeris/ephemerisref20.New -/
def M44 : MFunc := ⟨.seq (.reg [⟨some 4, .mv (.c .nilp), none⟩,
  ⟨some 5, .mv (.c (.int .i64 0)), none⟩])
 (.seq (.reg [⟨some 9, .mv (.t 0), none⟩,
  ⟨some 10, .mv (.t 1), none⟩,
  ⟨some 11, .call 83 [(.t 9), (.t 10)], none⟩,
  ⟨some 8, .mv (.t 11), none⟩,
  ⟨some 12, .ex 0 (.t 8), none⟩,
  ⟨some 13, .ex 1 (.t 8), none⟩,
  ⟨some 6, .mv (.t 12), none⟩,
  ⟨some 7, .mv (.t 13), none⟩])
 (.seq (.seq (.reg [⟨some 14, .mv (.t 7), none⟩,
  ⟨some 15, .bin .neq [] (.t 14) (.c (.int .i64 0)), none⟩])
 (.cond (.t 15)
 (.seq (.reg [⟨some 16, .mv (.t 7), none⟩,
  ⟨some 4, .mv (.c .nilp), none⟩,
  ⟨some 5, .mv (.t 16), none⟩])
 (.ret))
 (.skip)))
 (.seq (.reg [⟨some 17, .mv (.t 6), none⟩,
  ⟨some 18, .bld [.nilp, .nils, (.int .i64 0), (.bool false)] [(0, 1, (.t 17)), (2, 1, (.c (.int .i64 (-1))))], none⟩,
  ⟨some 19, .bx none 4 (.t 18), none⟩,
  ⟨some 4, .mv (.t 19), none⟩,
  ⟨some 5, .mv (.c (.int .i64 0)), none⟩])
 (.ret)))),
 [.tmp 4, .tmp 5], true⟩
/-- (*ephemeris/ephemerisref20.Filter).Put -/
def M45 : MFunc := ⟨.seq (.reg [⟨some 3, .bx (some .i64) 3 (.t 1), none⟩,
  ⟨some 4, .mv (.c (.int .i64 0)), none⟩])
 (.seq (.seq (.reg [⟨some 7, .ld (some 3) (.t 3), none⟩,
  ⟨some 8, .call 84 [(.t 7)], none⟩,
  ⟨some 9, .un .not (.t 8), none⟩])
 (.cond (.t 9)
 (.seq (.reg [⟨some 4, .mv (.c (.int .i64 1)), none⟩])
 (.ret))
 (.skip)))
 (.seq (.reg [⟨some 10, .mv (.t 0), none⟩,
  ⟨some 11, .nc (.t 10), none⟩,
  ⟨some 12, .fa 1 (.t 11), none⟩,
  ⟨some 13, .ld none (.t 12), none⟩,
  ⟨some 14, .len none (.t 13), none⟩,
  ⟨some 5, .mv (.t 14), none⟩])
 (.seq (.seq (.regd [(0, ⟨some 15, .mv (.t 5), none⟩),
  (1, ⟨some 16, .bin .gtr [] (.t 15) (.c (.int .i64 0)), none⟩),
  (2, ⟨some 17, .mv (.t 16), none⟩),
  (3, ⟨some 18, .mv (.t 0), some (17, true)⟩),
  (4, ⟨some 19, .nc (.t 18), some (17, true)⟩),
  (5, ⟨some 20, .fa 1 (.t 19), some (17, true)⟩),
  (6, ⟨some 21, .ld none (.t 20), some (17, true)⟩),
  (7, ⟨some 22, .mv (.t 5), some (17, true)⟩),
  (8, ⟨some 23, .bin .sub [] (.t 22) (.c (.int .i64 1)), some (17, true)⟩),
  (9, ⟨some 24, .ia none 3 (.t 21) (.t 23), some (17, true)⟩),
  (10, ⟨some 25, .fa 0 (.t 24), some (17, true)⟩),
  (11, ⟨some 26, .ld none (.t 25), some (17, true)⟩),
  (12, ⟨some 27, .fa 0 (.t 3), some (17, true)⟩),
  (13, ⟨some 28, .ld none (.t 27), some (17, true)⟩),
  (14, ⟨some 29, .bin .gtr [] (.t 26) (.t 28), some (17, true)⟩),
  (15, ⟨some 30, .pick (.t 17) (.t 29) (.c (.bool false)), none⟩)] [])
 (.cond (.t 30)
 (.seq (.reg [⟨some 4, .mv (.c (.int .i64 1)), none⟩])
 (.ret))
 (.skip)))
 (.seq (.seq (.reg [⟨some 31, .mv (.t 0), none⟩,
  ⟨some 32, .nc (.t 31), none⟩,
  ⟨some 33, .fa 3 (.t 32), none⟩,
  ⟨some 34, .ld none (.t 33), none⟩,
  ⟨some 35, .un .not (.t 34), none⟩,
  ⟨some 36, .mv (.t 35), none⟩,
  ⟨some 37, .mv (.t 0), some (36, true)⟩,
  ⟨some 38, .ld (some 3) (.t 3), some (36, true)⟩,
  ⟨some 39, .call 85 [(.t 37), (.t 38)], some (36, true)⟩,
  ⟨some 40, .pick (.t 36) (.t 39) (.c (.bool false)), none⟩])
 (.cond (.t 40)
 (.seq (.reg [⟨some 41, .mv (.t 0), none⟩,
  ⟨some 42, .nc (.t 41), none⟩,
  ⟨some 43, .fa 3 (.t 42), none⟩,
  ⟨none, .st 1 (.t 43) (.c (.bool true)), none⟩])
 (.seq (.reg [⟨some 4, .mv (.c (.int .i64 35)), none⟩])
 (.ret)))
 (.skip)))
 (.seq (.reg [⟨some 44, .mv (.t 0), none⟩,
  ⟨some 45, .nc (.t 44), none⟩,
  ⟨some 46, .fa 3 (.t 45), none⟩,
  ⟨none, .st 1 (.t 46) (.c (.bool false)), none⟩])
 (.seq (.reg [⟨some 6, .mv (.c .nils), none⟩])
 (.seq (.seq (.reg [⟨some 47, .mv (.t 5), none⟩,
  ⟨some 48, .bin .eql [] (.t 47) (.c (.int .i64 8)), none⟩])
 (.cond (.t 48)
 (.reg [⟨some 49, .mv (.t 6), none⟩,
  ⟨some 50, .mv (.t 0), none⟩,
  ⟨some 51, .nc (.t 50), none⟩,
  ⟨some 52, .fa 1 (.t 51), none⟩,
  ⟨some 53, .ld none (.t 52), none⟩,
  ⟨some 54, .slc none 3 (.t 53) (some (.c (.int .i64 1))) none none, none⟩,
  ⟨some 55, .app (.ints .i64 [0, 0, 0]) 24 (.t 49) (.t 54), none⟩,
  ⟨some 6, .mv (.t 55), none⟩])
 (.reg [⟨some 56, .mv (.t 6), none⟩,
  ⟨some 57, .mv (.t 0), none⟩,
  ⟨some 58, .nc (.t 57), none⟩,
  ⟨some 59, .fa 1 (.t 58), none⟩,
  ⟨some 60, .ld none (.t 59), none⟩,
  ⟨some 61, .app (.ints .i64 [0, 0, 0]) 24 (.t 56) (.t 60), none⟩,
  ⟨some 6, .mv (.t 61), none⟩])))
 (.seq (.reg [⟨some 62, .mv (.t 0), none⟩,
  ⟨some 63, .mv (.t 6), none⟩,
  ⟨some 64, .ld (some 3) (.t 3), none⟩,
  ⟨some 65, .bsl (.ints .i64 [0, 0, 0]) 1 3 [(0, 3, (.t 64))], none⟩,
  ⟨some 66, .app (.ints .i64 [0, 0, 0]) 24 (.t 63) (.t 65), none⟩,
  ⟨some 67, .nc (.t 62), none⟩,
  ⟨some 68, .fa 1 (.t 67), none⟩,
  ⟨none, .st 1 (.t 68) (.t 66), none⟩])
 (.seq (.reg [⟨some 4, .mv (.c (.int .i64 0)), none⟩])
 (.ret)))))))))),
 [.tmp 4], true⟩
/-- (*ephemeris/ephemerisref20.Filter).Use -/
def M46 : MFunc := ⟨.seq (.reg [⟨some 4, .al (.ints .i64 [0, 0, 0]), none⟩,
  ⟨some 5, .mv (.c (.bool false)), none⟩])
 (.seq (.reg [⟨some 9, .mv (.t 0), none⟩,
  ⟨some 10, .mv (.t 1), none⟩,
  ⟨some 11, .call 48 [(.t 9), (.t 10)], none⟩,
  ⟨some 8, .mv (.t 11), none⟩,
  ⟨some 12, .ex 0 (.t 8), none⟩,
  ⟨some 13, .ex 1 (.t 8), none⟩,
  ⟨some 6, .al (.ints .i64 [0, 0, 0]), none⟩,
  ⟨none, .st 3 (.t 6) (.t 12), none⟩,
  ⟨some 7, .mv (.t 13), none⟩])
 (.seq (.seq (.regd [(0, ⟨some 14, .mv (.t 7), none⟩),
  (1, ⟨some 15, .bin .lss [] (.t 14) (.c (.int .i64 0)), none⟩),
  (2, ⟨some 16, .mv (.t 15), none⟩),
  (3, ⟨some 17, .mv (.t 0), some (16, false)⟩),
  (4, ⟨some 18, .nc (.t 17), some (16, false)⟩),
  (5, ⟨some 19, .fa 1 (.t 18), some (16, false)⟩),
  (6, ⟨some 20, .ld none (.t 19), some (16, false)⟩),
  (7, ⟨some 21, .mv (.t 7), some (16, false)⟩),
  (8, ⟨some 22, .ia none 3 (.t 20) (.t 21), some (16, false)⟩),
  (9, ⟨some 23, .fa 0 (.t 22), some (16, false)⟩),
  (10, ⟨some 24, .ld none (.t 23), some (16, false)⟩),
  (11, ⟨some 25, .mv (.t 0), some (16, false)⟩),
  (12, ⟨some 26, .nc (.t 25), some (16, false)⟩),
  (13, ⟨some 27, .fa 2 (.t 26), some (16, false)⟩),
  (14, ⟨some 28, .ld none (.t 27), some (16, false)⟩),
  (15, ⟨some 29, .bin .leq [] (.t 24) (.t 28), some (16, false)⟩),
  (16, ⟨some 30, .pick (.t 16) (.c (.bool true)) (.t 29), none⟩)] [])
 (.cond (.t 30)
 (.seq (.reg [⟨some 31, .bld [(.int .i64 0), (.int .i64 0), (.int .i64 0)] [], none⟩,
  ⟨none, .st 3 (.t 4) (.t 31), none⟩,
  ⟨some 5, .mv (.c (.bool false)), none⟩])
 (.ret))
 (.skip)))
 (.seq (.reg [⟨some 32, .mv (.t 0), none⟩,
  ⟨some 33, .mv (.t 0), none⟩,
  ⟨some 34, .nc (.t 33), none⟩,
  ⟨some 35, .fa 1 (.t 34), none⟩,
  ⟨some 36, .ld none (.t 35), none⟩,
  ⟨some 37, .mv (.t 7), none⟩,
  ⟨some 38, .ia none 3 (.t 36) (.t 37), none⟩,
  ⟨some 39, .fa 0 (.t 38), none⟩,
  ⟨some 40, .ld none (.t 39), none⟩,
  ⟨some 41, .nc (.t 32), none⟩,
  ⟨some 42, .fa 2 (.t 41), none⟩,
  ⟨none, .st 1 (.t 42) (.t 40), none⟩])
 (.seq (.reg [⟨some 43, .ld (some 3) (.t 6), none⟩,
  ⟨none, .st 3 (.t 4) (.t 43), none⟩,
  ⟨some 5, .mv (.c (.bool true)), none⟩])
 (.ret))))),
 [.cell 4 (some 3), .tmp 5], true⟩
/-- (*ephemeris/filter.Filter).Copy -/
def M47 : MFunc := ⟨.seq (.reg [⟨some 2, .mv (.c .nilp), none⟩])
 (.seq (.seq (.reg [⟨some 4, .mv (.t 0), none⟩,
  ⟨some 5, .call 75 [(.t 4)], none⟩])
 (.cond (.t 5)
 (.seq (.reg [⟨some 2, .mv (.c .nilp), none⟩])
 (.ret))
 (.skip)))
 (.seq (.reg [⟨some 6, .mv (.t 0), none⟩,
  ⟨some 7, .nc (.t 6), none⟩,
  ⟨some 8, .ld (some 28) (.t 7), none⟩,
  ⟨some 3, .al (.vals [.nilp, (.int .i64 0), (.int .i64 0), (.int .i64 0), (.int .i64 0), (.int .i64 0), (.int .i64 0), (.int .i64 0), (.int .i64 0), (.int .i64 0), (.int .i64 0), (.int .i64 0), (.int .i64 0), (.int .i64 0), (.int .i64 0), (.int .i64 0), (.int .i64 0), (.int .i64 0), (.int .i64 0), (.int .i64 0), (.int .i64 0), (.int .i64 0), (.int .i64 0), (.int .i64 0), (.int .i64 0), (.int .i64 0), (.int .i64 0), (.bool false)]), none⟩,
  ⟨none, .st 28 (.t 3) (.t 8), none⟩])
 (.seq (.reg [⟨some 2, .mv (.t 3), none⟩])
 (.ret)))),
 [.tmp 2], true⟩
/-- (*ephemeris/ephemerisref20.Filter).Best -/
def M48 : MFunc := ⟨.seq (.reg [⟨some 4, .al (.ints .i64 [0, 0, 0]), none⟩,
  ⟨some 5, .mv (.c (.int .i64 0)), none⟩])
 (.seq (.reg [⟨some 6, .mv (.c (.int .i64 (-1))), none⟩])
 (.seq (.reg [⟨some 7, .al (.ints .i64 [0, 0, 0]), none⟩])
 (.seq (.seq (.reg [⟨some 8, .mv (.c (.int .i64 0)), none⟩])
 (.block 0 [4, 6, 7]
 (.loop [0, 1, 4, 6, 7, 8]
 (.seq (.seq (.reg [⟨some 11, .mv (.t 8), none⟩,
  ⟨some 12, .mv (.t 0), none⟩,
  ⟨some 13, .nc (.t 12), none⟩,
  ⟨some 14, .fa 1 (.t 13), none⟩,
  ⟨some 15, .ld none (.t 14), none⟩,
  ⟨some 16, .len none (.t 15), none⟩,
  ⟨some 17, .bin .lss [] (.t 11) (.t 16), none⟩])
 (.cond (.t 17)
 (.skip)
 (.exit 0)))
 (.seq (.block 1 [0, 1, 4, 6, 7, 8]
 (.seq (.regd [(0, ⟨some 21, .mv (.t 0), none⟩),
  (1, ⟨some 22, .nc (.t 21), none⟩),
  (2, ⟨some 23, .fa 0 (.t 22), none⟩),
  (3, ⟨some 24, .ld none (.t 23), none⟩),
  (4, ⟨some 25, .mv (.t 0), none⟩),
  (5, ⟨some 26, .nc (.t 25), none⟩),
  (6, ⟨some 27, .fa 1 (.t 26), none⟩),
  (7, ⟨some 28, .ld none (.t 27), none⟩),
  (8, ⟨some 29, .mv (.t 8), none⟩),
  (9, ⟨some 30, .ia none 3 (.t 28) (.t 29), none⟩),
  (10, ⟨some 31, .ld (some 3) (.t 30), none⟩),
  (11, ⟨some 32, .mv (.t 1), none⟩),
  (12, ⟨some 33, .call 86 [(.t 24), (.t 31), (.t 32)], none⟩),
  (13, ⟨some 20, .mv (.t 33), none⟩),
  (14, ⟨some 34, .ex 0 (.t 20), none⟩),
  (15, ⟨some 35, .ex 1 (.t 20), none⟩),
  (16, ⟨some 9, .al (.ints .i64 [0, 0, 0]), none⟩),
  (17, ⟨none, .st 3 (.t 9) (.t 34), none⟩),
  (18, ⟨some 10, .mv (.t 35), none⟩)] [])
 (.seq (.seq (.reg [⟨some 36, .mv (.t 10), none⟩,
  ⟨some 37, .bin .neq [] (.t 36) (.c (.int .i64 0)), none⟩])
 (.cond (.t 37)
 (.seq (.reg [⟨some 38, .bld [(.int .i64 0), (.int .i64 0), (.int .i64 0)] [], none⟩,
  ⟨none, .st 3 (.t 4) (.t 38), none⟩,
  ⟨some 5, .mv (.c (.int .i64 (-1))), none⟩])
 (.ret))
 (.skip)))
 (.seq (.reg [⟨some 39, .mv (.t 6), none⟩,
  ⟨some 40, .bin .lss [] (.t 39) (.c (.int .i64 0)), none⟩,
  ⟨some 41, .mv (.t 40), none⟩,
  ⟨some 42, .fa 2 (.t 9), some (41, false)⟩,
  ⟨some 43, .ld none (.t 42), some (41, false)⟩,
  ⟨some 44, .fa 1 (.t 9), some (41, false)⟩,
  ⟨some 45, .ld none (.t 44), some (41, false)⟩,
  ⟨some 46, .bin .sub [] (.t 43) (.t 45), some (41, false)⟩,
  ⟨some 47, .fa 2 (.t 7), some (41, false)⟩,
  ⟨some 48, .ld none (.t 47), some (41, false)⟩,
  ⟨some 49, .fa 1 (.t 7), some (41, false)⟩,
  ⟨some 50, .ld none (.t 49), some (41, false)⟩,
  ⟨some 51, .bin .sub [] (.t 48) (.t 50), some (41, false)⟩,
  ⟨some 52, .bin .leq [] (.t 46) (.t 51), some (41, false)⟩,
  ⟨some 53, .pick (.t 41) (.c (.bool true)) (.t 52), none⟩])
 (.cond (.t 53)
 (.seq (.reg [⟨some 54, .mv (.t 8), none⟩,
  ⟨some 6, .mv (.t 54), none⟩])
 (.reg [⟨some 55, .ld (some 3) (.t 9), none⟩,
  ⟨none, .st 3 (.t 7) (.t 55), none⟩]))
 (.skip))))))
 (.reg [⟨some 18, .mv (.t 8), none⟩,
  ⟨some 19, .bin .add [] (.t 18) (.c (.int .i64 1)), none⟩,
  ⟨some 8, .mv (.t 19), none⟩]))))))
 (.seq (.reg [⟨some 56, .ld (some 3) (.t 7), none⟩,
  ⟨some 57, .mv (.t 6), none⟩,
  ⟨none, .st 3 (.t 4) (.t 56), none⟩,
  ⟨some 5, .mv (.t 57), none⟩])
 (.ret))))),
 [.cell 4 (some 3), .tmp 5], true⟩
/-- (*ephemeris/ephemerisref20.Filter).Jitter -/
def M49 : MFunc := ⟨.seq (.reg [⟨some 4, .mv (.c (.int .i64 0)), none⟩])
 (.seq (.reg [⟨some 16, .mv (.t 0), none⟩,
  ⟨some 17, .mv (.t 1), none⟩,
  ⟨some 18, .call 48 [(.t 16), (.t 17)], none⟩,
  ⟨some 15, .mv (.t 18), none⟩,
  ⟨some 19, .ex 0 (.t 15), none⟩,
  ⟨some 20, .ex 1 (.t 15), none⟩,
  ⟨some 5, .al (.ints .i64 [0, 0, 0]), none⟩,
  ⟨none, .st 3 (.t 5) (.t 19), none⟩,
  ⟨some 6, .mv (.t 20), none⟩])
 (.seq (.seq (.reg [⟨some 21, .mv (.t 6), none⟩,
  ⟨some 22, .bin .lss [] (.t 21) (.c (.int .i64 0)), none⟩,
  ⟨some 23, .mv (.t 22), none⟩,
  ⟨some 24, .mv (.t 0), some (23, false)⟩,
  ⟨some 25, .nc (.t 24), some (23, false)⟩,
  ⟨some 26, .fa 1 (.t 25), some (23, false)⟩,
  ⟨some 27, .ld none (.t 26), some (23, false)⟩,
  ⟨some 28, .len none (.t 27), some (23, false)⟩,
  ⟨some 29, .bin .lss [] (.t 28) (.c (.int .i64 2)), some (23, false)⟩,
  ⟨some 30, .pick (.t 23) (.c (.bool true)) (.t 29), none⟩])
 (.cond (.t 30)
 (.seq (.reg [⟨some 4, .mv (.c (.int .i64 0)), none⟩])
 (.ret))
 (.skip)))
 (.seq (.reg [⟨some 7, .al (.vals [(.bool false), .nils]), none⟩])
 (.seq (.seq (.reg [⟨some 8, .mv (.c (.int .i64 0)), none⟩])
 (.block 0 [0, 7]
 (.loop [0, 1, 5, 7, 8]
 (.seq (.seq (.reg [⟨some 31, .mv (.t 8), none⟩,
  ⟨some 32, .mv (.t 0), none⟩,
  ⟨some 33, .nc (.t 32), none⟩,
  ⟨some 34, .fa 1 (.t 33), none⟩,
  ⟨some 35, .ld none (.t 34), none⟩,
  ⟨some 36, .len none (.t 35), none⟩,
  ⟨some 37, .bin .lss [] (.t 31) (.t 36), none⟩])
 (.cond (.t 37)
 (.skip)
 (.exit 0)))
 (.seq (.block 1 [0, 1, 5, 7, 8]
 (.seq (.regd [(0, ⟨some 41, .mv (.t 0), none⟩),
  (1, ⟨some 42, .nc (.t 41), none⟩),
  (2, ⟨some 43, .fa 0 (.t 42), none⟩),
  (3, ⟨some 44, .ld none (.t 43), none⟩),
  (4, ⟨some 45, .mv (.t 0), none⟩),
  (5, ⟨some 46, .nc (.t 45), none⟩),
  (6, ⟨some 47, .fa 1 (.t 46), none⟩),
  (7, ⟨some 48, .ld none (.t 47), none⟩),
  (8, ⟨some 49, .mv (.t 8), none⟩),
  (9, ⟨some 50, .ia none 3 (.t 48) (.t 49), none⟩),
  (10, ⟨some 51, .ld (some 3) (.t 50), none⟩),
  (11, ⟨some 52, .mv (.t 1), none⟩),
  (12, ⟨some 53, .call 86 [(.t 44), (.t 51), (.t 52)], none⟩),
  (13, ⟨some 40, .mv (.t 53), none⟩),
  (14, ⟨some 54, .ex 0 (.t 40), none⟩),
  (15, ⟨some 55, .ex 1 (.t 40), none⟩),
  (16, ⟨some 9, .al (.ints .i64 [0, 0, 0]), none⟩),
  (17, ⟨none, .st 3 (.t 9) (.t 54), none⟩),
  (18, ⟨some 10, .mv (.t 55), none⟩)] [])
 (.regd [(0, ⟨some 56, .ld (some 2) (.t 7), none⟩),
  (1, ⟨some 57, .ld (some 3) (.t 9), none⟩),
  (2, ⟨some 58, .ld (some 3) (.t 5), none⟩),
  (3, ⟨some 59, .call 87 [(.t 57), (.t 58)], none⟩),
  (4, ⟨some 60, .call 63 [(.t 59)], none⟩),
  (5, ⟨some 61, .call 65 [(.t 56), (.t 60)], none⟩),
  (6, ⟨none, .st 2 (.t 7) (.t 61), none⟩)] [(0, 3), (0, 4)])))
 (.reg [⟨some 38, .mv (.t 8), none⟩,
  ⟨some 39, .bin .add [] (.t 38) (.c (.int .i64 1)), none⟩,
  ⟨some 8, .mv (.t 39), none⟩]))))))
 (.seq (.regd [(0, ⟨some 63, .fa 1 (.t 7), none⟩),
  (1, ⟨some 64, .ld none (.t 63), none⟩),
  (2, ⟨some 65, .mv (.t 0), none⟩),
  (3, ⟨some 66, .nc (.t 65), none⟩),
  (4, ⟨some 67, .fa 1 (.t 66), none⟩),
  (5, ⟨some 68, .ld none (.t 67), none⟩),
  (6, ⟨some 69, .len none (.t 68), none⟩),
  (7, ⟨some 70, .bin .sub [] (.t 69) (.c (.int .i64 1)), none⟩),
  (8, ⟨some 71, .call 63 [(.t 70)], none⟩),
  (9, ⟨some 72, .fld 1 none (.t 71), none⟩),
  (10, ⟨some 73, .call 66 [(.t 64), (.t 72)], none⟩),
  (11, ⟨some 62, .mv (.t 73), none⟩),
  (12, ⟨some 74, .ex 0 (.t 62), none⟩),
  (13, ⟨some 75, .ex 1 (.t 62), none⟩),
  (14, ⟨some 11, .mv (.t 74), none⟩),
  (15, ⟨some 12, .mv (.t 75), none⟩)] [(1, 8)])
 (.seq (.reg [⟨some 77, .mv (.t 11), none⟩,
  ⟨some 78, .bld [(.bool false), .nils] [(1, 1, (.t 77))], none⟩,
  ⟨some 79, .call 67 [(.t 78)], none⟩,
  ⟨some 76, .mv (.t 79), none⟩,
  ⟨some 80, .ex 0 (.t 76), none⟩,
  ⟨some 81, .ex 1 (.t 76), none⟩,
  ⟨some 13, .mv (.t 80), none⟩,
  ⟨some 14, .mv (.t 81), none⟩])
 (.seq (.reg [⟨some 82, .mv (.t 13), none⟩,
  ⟨some 4, .mv (.t 82), none⟩])
 (.ret)))))))),
 [.tmp 4], true⟩
/-- (*ephemeris/sky.Sky).none -/
def M50 : MFunc := ⟨.seq (.reg [⟨some 2, .mv (.c (.bool false)), none⟩])
 (.seq (.reg [⟨some 3, .mv (.t 0), none⟩,
  ⟨some 4, .bin .eql [2] (.t 3) (.c .nilp), none⟩,
  ⟨some 5, .mv (.t 4), none⟩,
  ⟨some 6, .mv (.t 0), some (5, false)⟩,
  ⟨some 7, .nc (.t 6), some (5, false)⟩,
  ⟨some 8, .fa 0 (.t 7), some (5, false)⟩,
  ⟨some 9, .ld none (.t 8), some (5, false)⟩,
  ⟨some 10, .bin .eql [] (.t 9) (.c (.int .u64 0)), some (5, false)⟩,
  ⟨some 11, .pick (.t 5) (.c (.bool true)) (.t 10), none⟩,
  ⟨some 2, .mv (.t 11), none⟩])
 (.ret)),
 [.tmp 2], true⟩
/-- ephemeris/sky.time -/
def M51 : MFunc := ⟨.seq (.reg [⟨some 2, .mv (.c (.int .i64 0)), none⟩])
 (.seq (.reg [⟨some 3, .mv (.t 0), none⟩,
  ⟨some 4, .call 88 [(.t 3), (.c (.int .i64 0)), (.c (.int .i64 4503599627370496))], none⟩,
  ⟨some 2, .mv (.t 4), none⟩])
 (.ret)),
 [.tmp 2], true⟩
/-- (ephemeris/sky.sum).plus -/
def M52 : MFunc := ⟨.seq (.reg [⟨some 3, .bx (some .u64) 2 (.t 0), none⟩,
  ⟨some 6, .al (.ints .u64 [0, 0]), none⟩])
 (.seq (.reg [⟨some 11, .mv (.t 1), none⟩,
  ⟨some 12, .mv (.t 2), none⟩,
  ⟨some 13, .call 54 [(.t 11), (.t 12)], none⟩,
  ⟨some 10, .mv (.t 13), none⟩,
  ⟨some 14, .ex 0 (.t 10), none⟩,
  ⟨some 15, .ex 1 (.t 10), none⟩,
  ⟨some 7, .mv (.t 14), none⟩,
  ⟨some 8, .mv (.t 15), none⟩])
 (.seq (.reg [⟨some 17, .ia (some 2) 1 (.t 3) (.c (.int .i64 1)), none⟩,
  ⟨some 18, .ld none (.t 17), none⟩,
  ⟨some 19, .mv (.t 8), none⟩,
  ⟨some 20, .call 89 [(.t 18), (.t 19), (.c (.int .u64 0))], none⟩,
  ⟨some 16, .mv (.t 20), none⟩,
  ⟨some 21, .ex 0 (.t 16), none⟩,
  ⟨some 22, .ex 1 (.t 16), none⟩,
  ⟨some 8, .mv (.t 21), none⟩,
  ⟨some 9, .mv (.t 22), none⟩])
 (.seq (.reg [⟨some 23, .ia (some 2) 1 (.t 3) (.c (.int .i64 0)), none⟩,
  ⟨some 24, .ld none (.t 23), none⟩,
  ⟨some 25, .mv (.t 7), none⟩,
  ⟨some 26, .bin .add [] (.t 24) (.t 25), none⟩,
  ⟨some 27, .mv (.t 9), none⟩,
  ⟨some 28, .bin .add [] (.t 26) (.t 27), none⟩,
  ⟨some 29, .mv (.t 8), none⟩,
  ⟨some 30, .bld [(.int .u64 0), (.int .u64 0)] [(0, 1, (.t 28)), (1, 1, (.t 29))], none⟩,
  ⟨none, .st 2 (.t 6) (.t 30), none⟩])
 (.ret)))),
 [.cell 6 (some 2)], true⟩
/-- math/bits.Div64 -/
def M53 : MFunc := ⟨.seq (.reg [⟨some 6, .mv (.c (.int .u64 0)), none⟩,
  ⟨some 7, .mv (.c (.int .u64 0)), none⟩])
 (.seq (.seq (.reg [⟨some 19, .mv (.t 2), none⟩,
  ⟨some 20, .bin .eql [] (.t 19) (.c (.int .u64 0)), none⟩])
 (.cond (.t 20)
 (.reg [⟨some 21, .ld none (.g 0), none⟩,
  ⟨none, .bad, none⟩])
 (.skip)))
 (.seq (.seq (.reg [⟨some 22, .mv (.t 2), none⟩,
  ⟨some 23, .mv (.t 0), none⟩,
  ⟨some 24, .bin .leq [] (.t 22) (.t 23), none⟩])
 (.cond (.t 24)
 (.reg [⟨some 25, .ld none (.g 1), none⟩,
  ⟨none, .bad, none⟩])
 (.skip)))
 (.seq (.seq (.reg [⟨some 26, .mv (.t 0), none⟩,
  ⟨some 27, .bin .eql [] (.t 26) (.c (.int .u64 0)), none⟩])
 (.cond (.t 27)
 (.seq (.regd [(0, ⟨some 28, .mv (.t 1), none⟩),
  (1, ⟨some 29, .mv (.t 2), none⟩),
  (2, ⟨some 30, .bin .quo [] (.t 28) (.t 29), none⟩),
  (3, ⟨some 31, .mv (.t 1), none⟩),
  (4, ⟨some 32, .mv (.t 2), none⟩),
  (5, ⟨some 33, .bin .rem [] (.t 31) (.t 32), none⟩),
  (6, ⟨some 6, .mv (.t 30), none⟩),
  (7, ⟨some 7, .mv (.t 33), none⟩)] [])
 (.ret))
 (.skip)))
 (.seq (.reg [⟨some 34, .mv (.t 2), none⟩,
  ⟨some 35, .call 90 [(.t 34)], none⟩,
  ⟨some 36, .ci .u64 (.t 35), none⟩,
  ⟨some 8, .mv (.t 36), none⟩])
 (.seq (.reg [⟨some 37, .mv (.t 2), none⟩,
  ⟨some 38, .mv (.t 8), none⟩,
  ⟨some 39, .bin .shl [] (.t 37) (.t 38), none⟩,
  ⟨some 2, .mv (.t 39), none⟩])
 (.seq (.reg [⟨some 40, .mv (.t 2), none⟩,
  ⟨some 41, .bin .shr [] (.t 40) (.c (.int .u64 32)), none⟩,
  ⟨some 9, .mv (.t 41), none⟩])
 (.seq (.reg [⟨some 42, .mv (.t 2), none⟩,
  ⟨some 43, .bin .and [] (.t 42) (.c (.int .u64 4294967295)), none⟩,
  ⟨some 10, .mv (.t 43), none⟩])
 (.seq (.reg [⟨some 44, .mv (.t 0), none⟩,
  ⟨some 45, .mv (.t 8), none⟩,
  ⟨some 46, .bin .shl [] (.t 44) (.t 45), none⟩,
  ⟨some 47, .mv (.t 1), none⟩,
  ⟨some 48, .mv (.t 8), none⟩,
  ⟨some 49, .bin .sub [] (.c (.int .u64 64)) (.t 48), none⟩,
  ⟨some 50, .bin .shr [] (.t 47) (.t 49), none⟩,
  ⟨some 51, .bin .or [] (.t 46) (.t 50), none⟩,
  ⟨some 11, .mv (.t 51), none⟩])
 (.seq (.reg [⟨some 52, .mv (.t 1), none⟩,
  ⟨some 53, .mv (.t 8), none⟩,
  ⟨some 54, .bin .shl [] (.t 52) (.t 53), none⟩,
  ⟨some 12, .mv (.t 54), none⟩])
 (.seq (.reg [⟨some 55, .mv (.t 12), none⟩,
  ⟨some 56, .bin .shr [] (.t 55) (.c (.int .u64 32)), none⟩,
  ⟨some 13, .mv (.t 56), none⟩])
 (.seq (.reg [⟨some 57, .mv (.t 12), none⟩,
  ⟨some 58, .bin .and [] (.t 57) (.c (.int .u64 4294967295)), none⟩,
  ⟨some 14, .mv (.t 58), none⟩])
 (.seq (.reg [⟨some 59, .mv (.t 11), none⟩,
  ⟨some 60, .mv (.t 9), none⟩,
  ⟨some 61, .bin .quo [] (.t 59) (.t 60), none⟩,
  ⟨some 15, .mv (.t 61), none⟩])
 (.seq (.reg [⟨some 62, .mv (.t 11), none⟩,
  ⟨some 63, .mv (.t 15), none⟩,
  ⟨some 64, .mv (.t 9), none⟩,
  ⟨some 65, .bin .mul [] (.t 63) (.t 64), none⟩,
  ⟨some 66, .bin .sub [] (.t 62) (.t 65), none⟩,
  ⟨some 16, .mv (.t 66), none⟩])
 (.seq (.block 0 [2, 8, 9, 10, 11, 13, 14, 15]
 (.loop [2, 8, 9, 10, 11, 13, 14, 15, 16]
 (.seq (.seq (.reg [⟨some 67, .mv (.t 15), none⟩,
  ⟨some 68, .bin .geq [] (.t 67) (.c (.int .u64 4294967296)), none⟩,
  ⟨some 69, .mv (.t 68), none⟩,
  ⟨some 70, .mv (.t 15), some (69, false)⟩,
  ⟨some 71, .mv (.t 10), some (69, false)⟩,
  ⟨some 72, .bin .mul [] (.t 70) (.t 71), some (69, false)⟩,
  ⟨some 73, .mv (.t 16), some (69, false)⟩,
  ⟨some 74, .bin .mul [] (.c (.int .u64 4294967296)) (.t 73), some (69, false)⟩,
  ⟨some 75, .mv (.t 13), some (69, false)⟩,
  ⟨some 76, .bin .add [] (.t 74) (.t 75), some (69, false)⟩,
  ⟨some 77, .bin .gtr [] (.t 72) (.t 76), some (69, false)⟩,
  ⟨some 78, .pick (.t 69) (.c (.bool true)) (.t 77), none⟩])
 (.cond (.t 78)
 (.skip)
 (.exit 0)))
 (.block 1 [2, 8, 9, 10, 11, 13, 14, 15, 16]
 (.seq (.reg [⟨some 79, .mv (.t 15), none⟩,
  ⟨some 80, .bin .sub [] (.t 79) (.c (.int .u64 1)), none⟩,
  ⟨some 15, .mv (.t 80), none⟩])
 (.seq (.reg [⟨some 81, .mv (.t 16), none⟩,
  ⟨some 82, .mv (.t 9), none⟩,
  ⟨some 83, .bin .add [] (.t 81) (.t 82), none⟩,
  ⟨some 16, .mv (.t 83), none⟩])
 (.seq (.reg [⟨some 84, .mv (.t 16), none⟩,
  ⟨some 85, .bin .geq [] (.t 84) (.c (.int .u64 4294967296)), none⟩])
 (.cond (.t 85)
 (.exit 0)
 (.skip)))))))))
 (.seq (.reg [⟨some 86, .mv (.t 11), none⟩,
  ⟨some 87, .bin .mul [] (.t 86) (.c (.int .u64 4294967296)), none⟩,
  ⟨some 88, .mv (.t 13), none⟩,
  ⟨some 89, .bin .add [] (.t 87) (.t 88), none⟩,
  ⟨some 90, .mv (.t 15), none⟩,
  ⟨some 91, .mv (.t 2), none⟩,
  ⟨some 92, .bin .mul [] (.t 90) (.t 91), none⟩,
  ⟨some 93, .bin .sub [] (.t 89) (.t 92), none⟩,
  ⟨some 17, .mv (.t 93), none⟩])
 (.seq (.reg [⟨some 94, .mv (.t 17), none⟩,
  ⟨some 95, .mv (.t 9), none⟩,
  ⟨some 96, .bin .quo [] (.t 94) (.t 95), none⟩,
  ⟨some 18, .mv (.t 96), none⟩])
 (.seq (.reg [⟨some 97, .mv (.t 17), none⟩,
  ⟨some 98, .mv (.t 18), none⟩,
  ⟨some 99, .mv (.t 9), none⟩,
  ⟨some 100, .bin .mul [] (.t 98) (.t 99), none⟩,
  ⟨some 101, .bin .sub [] (.t 97) (.t 100), none⟩,
  ⟨some 16, .mv (.t 101), none⟩])
 (.seq (.block 2 [2, 8, 14, 15, 17, 18]
 (.loop [2, 8, 9, 10, 14, 15, 16, 17, 18]
 (.seq (.seq (.reg [⟨some 102, .mv (.t 18), none⟩,
  ⟨some 103, .bin .geq [] (.t 102) (.c (.int .u64 4294967296)), none⟩,
  ⟨some 104, .mv (.t 103), none⟩,
  ⟨some 105, .mv (.t 18), some (104, false)⟩,
  ⟨some 106, .mv (.t 10), some (104, false)⟩,
  ⟨some 107, .bin .mul [] (.t 105) (.t 106), some (104, false)⟩,
  ⟨some 108, .mv (.t 16), some (104, false)⟩,
  ⟨some 109, .bin .mul [] (.c (.int .u64 4294967296)) (.t 108), some (104, false)⟩,
  ⟨some 110, .mv (.t 14), some (104, false)⟩,
  ⟨some 111, .bin .add [] (.t 109) (.t 110), some (104, false)⟩,
  ⟨some 112, .bin .gtr [] (.t 107) (.t 111), some (104, false)⟩,
  ⟨some 113, .pick (.t 104) (.c (.bool true)) (.t 112), none⟩])
 (.cond (.t 113)
 (.skip)
 (.exit 2)))
 (.block 3 [2, 8, 9, 10, 14, 15, 16, 17, 18]
 (.seq (.reg [⟨some 114, .mv (.t 18), none⟩,
  ⟨some 115, .bin .sub [] (.t 114) (.c (.int .u64 1)), none⟩,
  ⟨some 18, .mv (.t 115), none⟩])
 (.seq (.reg [⟨some 116, .mv (.t 16), none⟩,
  ⟨some 117, .mv (.t 9), none⟩,
  ⟨some 118, .bin .add [] (.t 116) (.t 117), none⟩,
  ⟨some 16, .mv (.t 118), none⟩])
 (.seq (.reg [⟨some 119, .mv (.t 16), none⟩,
  ⟨some 120, .bin .geq [] (.t 119) (.c (.int .u64 4294967296)), none⟩])
 (.cond (.t 120)
 (.exit 2)
 (.skip)))))))))
 (.seq (.reg [⟨some 121, .mv (.t 15), none⟩,
  ⟨some 122, .bin .mul [] (.t 121) (.c (.int .u64 4294967296)), none⟩,
  ⟨some 123, .mv (.t 18), none⟩,
  ⟨some 124, .bin .add [] (.t 122) (.t 123), none⟩,
  ⟨some 125, .mv (.t 17), none⟩,
  ⟨some 126, .bin .mul [] (.t 125) (.c (.int .u64 4294967296)), none⟩,
  ⟨some 127, .mv (.t 14), none⟩,
  ⟨some 128, .bin .add [] (.t 126) (.t 127), none⟩,
  ⟨some 129, .mv (.t 18), none⟩,
  ⟨some 130, .mv (.t 2), none⟩,
  ⟨some 131, .bin .mul [] (.t 129) (.t 130), none⟩,
  ⟨some 132, .bin .sub [] (.t 128) (.t 131), none⟩,
  ⟨some 133, .mv (.t 8), none⟩,
  ⟨some 134, .bin .shr [] (.t 132) (.t 133), none⟩,
  ⟨some 6, .mv (.t 124), none⟩,
  ⟨some 7, .mv (.t 134), none⟩])
 (.ret)))))))))))))))))))),
 [.tmp 6, .tmp 7], true⟩
/-- math/bits.Mul64 -/
def M54 : MFunc := ⟨.seq (.reg [⟨some 4, .mv (.c (.int .u64 0)), none⟩,
  ⟨some 5, .mv (.c (.int .u64 0)), none⟩])
 (.seq (.reg [⟨some 14, .mv (.t 0), none⟩,
  ⟨some 15, .bin .and [] (.t 14) (.c (.int .u64 4294967295)), none⟩,
  ⟨some 6, .mv (.t 15), none⟩])
 (.seq (.reg [⟨some 16, .mv (.t 0), none⟩,
  ⟨some 17, .bin .shr [] (.t 16) (.c (.int .u64 32)), none⟩,
  ⟨some 7, .mv (.t 17), none⟩])
 (.seq (.reg [⟨some 18, .mv (.t 1), none⟩,
  ⟨some 19, .bin .and [] (.t 18) (.c (.int .u64 4294967295)), none⟩,
  ⟨some 8, .mv (.t 19), none⟩])
 (.seq (.reg [⟨some 20, .mv (.t 1), none⟩,
  ⟨some 21, .bin .shr [] (.t 20) (.c (.int .u64 32)), none⟩,
  ⟨some 9, .mv (.t 21), none⟩])
 (.seq (.reg [⟨some 22, .mv (.t 6), none⟩,
  ⟨some 23, .mv (.t 8), none⟩,
  ⟨some 24, .bin .mul [] (.t 22) (.t 23), none⟩,
  ⟨some 10, .mv (.t 24), none⟩])
 (.seq (.reg [⟨some 25, .mv (.t 7), none⟩,
  ⟨some 26, .mv (.t 8), none⟩,
  ⟨some 27, .bin .mul [] (.t 25) (.t 26), none⟩,
  ⟨some 28, .mv (.t 10), none⟩,
  ⟨some 29, .bin .shr [] (.t 28) (.c (.int .u64 32)), none⟩,
  ⟨some 30, .bin .add [] (.t 27) (.t 29), none⟩,
  ⟨some 11, .mv (.t 30), none⟩])
 (.seq (.reg [⟨some 31, .mv (.t 11), none⟩,
  ⟨some 32, .bin .and [] (.t 31) (.c (.int .u64 4294967295)), none⟩,
  ⟨some 12, .mv (.t 32), none⟩])
 (.seq (.reg [⟨some 33, .mv (.t 11), none⟩,
  ⟨some 34, .bin .shr [] (.t 33) (.c (.int .u64 32)), none⟩,
  ⟨some 13, .mv (.t 34), none⟩])
 (.seq (.reg [⟨some 35, .mv (.t 12), none⟩,
  ⟨some 36, .mv (.t 6), none⟩,
  ⟨some 37, .mv (.t 9), none⟩,
  ⟨some 38, .bin .mul [] (.t 36) (.t 37), none⟩,
  ⟨some 39, .bin .add [] (.t 35) (.t 38), none⟩,
  ⟨some 12, .mv (.t 39), none⟩])
 (.seq (.reg [⟨some 40, .mv (.t 7), none⟩,
  ⟨some 41, .mv (.t 9), none⟩,
  ⟨some 42, .bin .mul [] (.t 40) (.t 41), none⟩,
  ⟨some 43, .mv (.t 13), none⟩,
  ⟨some 44, .bin .add [] (.t 42) (.t 43), none⟩,
  ⟨some 45, .mv (.t 12), none⟩,
  ⟨some 46, .bin .shr [] (.t 45) (.c (.int .u64 32)), none⟩,
  ⟨some 47, .bin .add [] (.t 44) (.t 46), none⟩,
  ⟨some 4, .mv (.t 47), none⟩])
 (.seq (.reg [⟨some 48, .mv (.t 0), none⟩,
  ⟨some 49, .mv (.t 1), none⟩,
  ⟨some 50, .bin .mul [] (.t 48) (.t 49), none⟩,
  ⟨some 5, .mv (.t 50), none⟩])
 (.ret)))))))))))),
 [.tmp 4, .tmp 5], true⟩
/-- ephemeris/ephemerislaw30.one -/
def M55 : MFunc := ⟨.seq (.reg [⟨some 0, .mv (.c .nilp), none⟩,
  ⟨some 1, .mv (.c (.int .i64 0)), none⟩])
 (.seq (.reg [⟨some 2, .bld [(.int .i64 0), (.int .i64 0)] [(0, 1, (.c (.int .i64 0))), (1, 1, (.c (.int .i64 0)))], none⟩,
  ⟨some 3, .bld [(.int .i64 0), (.int .i64 0)] [(0, 1, (.c (.int .i64 2000000000))), (1, 1, (.c (.int .i64 500000)))], none⟩,
  ⟨some 4, .bsl (.ints .i64 [0, 0]) 2 2 [(0, 2, (.t 2)), (2, 2, (.t 3))], none⟩,
  ⟨some 5, .call 19 [(.c (.int .u64 1000)), (.c (.int .i64 16)), (.c (.int .u64 65530)), (.t 4)], none⟩,
  ⟨some 6, .ex 0 (.t 5), none⟩,
  ⟨some 7, .ex 1 (.t 5), none⟩,
  ⟨some 0, .mv (.t 6), none⟩,
  ⟨some 1, .mv (.t 7), none⟩])
 (.ret)),
 [.tmp 0, .tmp 1], true⟩
/-- sort.Search -/
def M56 : MFunc := ⟨.seq (.reg [⟨some 4, .mv (.c (.int .i64 0)), none⟩])
 (.seq (.reg [⟨some 8, .mv (.t 0), none⟩,
  ⟨some 5, .mv (.c (.int .i64 0)), none⟩,
  ⟨some 6, .mv (.t 8), none⟩])
 (.seq (.block 0 [5]
 (.loop [1, 5, 6]
 (.seq (.seq (.reg [⟨some 9, .mv (.t 5), none⟩,
  ⟨some 10, .mv (.t 6), none⟩,
  ⟨some 11, .bin .lss [] (.t 9) (.t 10), none⟩])
 (.cond (.t 11)
 (.skip)
 (.exit 0)))
 (.block 1 [1, 5, 6]
 (.seq (.reg [⟨some 12, .mv (.t 5), none⟩,
  ⟨some 13, .mv (.t 6), none⟩,
  ⟨some 14, .bin .add [] (.t 12) (.t 13), none⟩,
  ⟨some 15, .ci .u64 (.t 14), none⟩,
  ⟨some 16, .bin .shr [] (.t 15) (.c (.int .u64 1)), none⟩,
  ⟨some 17, .ci .i64 (.t 16), none⟩,
  ⟨some 7, .mv (.t 17), none⟩])
 (.seq (.reg [⟨some 18, .mv (.t 1), none⟩,
  ⟨some 19, .mv (.t 7), none⟩,
  ⟨some 20, .calld (.t 18) [(.t 19)], none⟩,
  ⟨some 21, .un .not (.t 20), none⟩])
 (.cond (.t 21)
 (.reg [⟨some 22, .mv (.t 7), none⟩,
  ⟨some 23, .bin .add [] (.t 22) (.c (.int .i64 1)), none⟩,
  ⟨some 5, .mv (.t 23), none⟩])
 (.reg [⟨some 24, .mv (.t 7), none⟩,
  ⟨some 6, .mv (.t 24), none⟩]))))))))
 (.seq (.reg [⟨some 25, .mv (.t 5), none⟩,
  ⟨some 4, .mv (.t 25), none⟩])
 (.ret)))),
 [.tmp 4], true⟩
/-- (*ephemeris/sky.Sky).When_1 -/
def M57 : MFunc := ⟨.seq (.reg [⟨some 4, .mv (.c (.bool false)), none⟩])
 (.seq (.regd [(0, ⟨some 5, .ld none (.t 1), none⟩),
  (1, ⟨some 6, .mv (.t 0), none⟩),
  (2, ⟨some 7, .call 14 [(.t 5), (.t 6)], none⟩),
  (3, ⟨some 8, .ld none (.t 2), none⟩),
  (4, ⟨some 9, .bin .geq [] (.t 7) (.t 8), none⟩),
  (5, ⟨some 4, .mv (.t 9), none⟩)] [(3, 2)])
 (.ret)),
 [.tmp 4], true⟩
/-- ephemeris/sky.New_1 -/
def M58 : MFunc := ⟨.seq (.reg [⟨some 2, .bx (some .i64) 2 (.t 0), none⟩,
  ⟨some 3, .mv (.c (.bool false)), none⟩])
 (.seq (.reg [⟨some 5, .fa 0 (.t 2), none⟩,
  ⟨some 6, .ld none (.t 5), none⟩,
  ⟨some 7, .ld none (.t 1), none⟩,
  ⟨some 8, .bin .leq [] (.t 6) (.t 7), none⟩,
  ⟨some 9, .mv (.t 8), none⟩,
  ⟨some 10, .ld none (.t 1), some (9, false)⟩,
  ⟨some 11, .bin .lss [] (.t 10) (.c (.int .i64 0)), some (9, false)⟩,
  ⟨some 12, .mv (.t 11), some (9, false)⟩,
  ⟨some 13, .fa 0 (.t 2), some (12, true)⟩,
  ⟨some 14, .ld none (.t 13), some (12, true)⟩,
  ⟨some 15, .bin .neq [] (.t 14) (.c (.int .i64 0)), some (12, true)⟩,
  ⟨some 16, .pick (.t 12) (.t 15) (.c (.bool false)), some (9, false)⟩,
  ⟨some 17, .pick (.t 9) (.c (.bool true)) (.t 16), none⟩,
  ⟨some 18, .mv (.t 17), none⟩,
  ⟨some 19, .fa 0 (.t 2), some (18, false)⟩,
  ⟨some 20, .ld none (.t 19), some (18, false)⟩,
  ⟨some 21, .bin .gtr [] (.t 20) (.c (.int .i64 4503599627370496)), some (18, false)⟩,
  ⟨some 22, .pick (.t 18) (.c (.bool true)) (.t 21), none⟩,
  ⟨some 23, .mv (.t 22), none⟩,
  ⟨some 24, .fa 1 (.t 2), some (23, false)⟩,
  ⟨some 25, .ld none (.t 24), some (23, false)⟩,
  ⟨some 26, .call 59 [(.t 25)], some (23, false)⟩,
  ⟨some 27, .bin .gtr [] (.t 26) (.c (.int .i64 500000)), some (23, false)⟩,
  ⟨some 28, .pick (.t 23) (.c (.bool true)) (.t 27), none⟩,
  ⟨some 4, .mv (.t 28), none⟩])
 (.seq (.reg [⟨some 29, .fa 0 (.t 2), none⟩,
  ⟨some 30, .ld none (.t 29), none⟩,
  ⟨none, .st 1 (.t 1) (.t 30), none⟩])
 (.seq (.reg [⟨some 31, .mv (.t 4), none⟩,
  ⟨some 3, .mv (.t 31), none⟩])
 (.ret)))),
 [.tmp 3], true⟩
/-- ephemeris/fix.Abs -/
def M59 : MFunc := ⟨.seq (.reg [⟨some 2, .mv (.c (.int .i64 0)), none⟩])
 (.seq (.block 0 [0]
 (.seq (.reg [⟨some 4, .mv (.t 0), none⟩,
  ⟨some 5, .bin .eql [] (.t 4) (.c (.int .i64 (-9223372036854775808))), none⟩,
  ⟨some 3, .mv (.t 5), none⟩])
 (.cond (.t 3)
 (.seq (.reg [⟨some 2, .mv (.c (.int .i64 9223372036854775807)), none⟩])
 (.ret))
 (.seq (.reg [⟨some 7, .mv (.t 0), none⟩,
  ⟨some 8, .bin .lss [] (.t 7) (.c (.int .i64 0)), none⟩,
  ⟨some 6, .mv (.t 8), none⟩])
 (.cond (.t 6)
 (.seq (.reg [⟨some 9, .mv (.t 0), none⟩,
  ⟨some 10, .un .neg (.t 9), none⟩,
  ⟨some 2, .mv (.t 10), none⟩])
 (.ret))
 (.skip))))))
 (.seq (.reg [⟨some 11, .mv (.t 0), none⟩,
  ⟨some 2, .mv (.t 11), none⟩])
 (.ret))),
 [.tmp 2], true⟩
/-- slices.ContainsFunc[[]ephemeris/sky.Piece,ephemeris/sky.Piece] -/
def M60 : MFunc := ⟨.seq (.reg [⟨some 4, .mv (.c (.bool false)), none⟩])
 (.seq (.reg [⟨some 5, .mv (.t 0), none⟩,
  ⟨some 6, .mv (.t 1), none⟩,
  ⟨some 7, .call 91 [(.t 5), (.t 6)], none⟩,
  ⟨some 8, .bin .geq [] (.t 7) (.c (.int .i64 0)), none⟩,
  ⟨some 4, .mv (.t 8), none⟩])
 (.ret)),
 [.tmp 4], true⟩
/-- slices.Clone[[]ephemeris/sky.Piece,ephemeris/sky.Piece] -/
def M61 : MFunc := ⟨.seq (.reg [⟨some 2, .mv (.c .nils), none⟩])
 (.seq (.seq (.reg [⟨some 3, .mv (.t 0), none⟩,
  ⟨some 4, .bin .eql [3] (.t 3) (.c .nils), none⟩])
 (.cond (.t 4)
 (.seq (.reg [⟨some 2, .mv (.c .nils), none⟩])
 (.ret))
 (.skip)))
 (.seq (.reg [⟨some 5, .bsl (.ints .i64 [0, 0]) 0 2 [], none⟩,
  ⟨some 6, .mv (.t 0), none⟩,
  ⟨some 7, .app (.ints .i64 [0, 0]) 16 (.t 5) (.t 6), none⟩,
  ⟨some 2, .mv (.t 7), none⟩])
 (.ret))),
 [.tmp 2], true⟩
/-- ephemeris/ephemerisref30.time -/
def M62 : MFunc := ⟨.seq (.reg [⟨some 2, .mv (.c (.int .i64 0)), none⟩])
 (.seq (.seq (.reg [⟨some 3, .mv (.t 0), none⟩,
  ⟨some 4, .bin .lss [] (.t 3) (.c (.int .i64 0)), none⟩])
 (.cond (.t 4)
 (.seq (.reg [⟨some 2, .mv (.c (.int .i64 0)), none⟩])
 (.ret))
 (.skip)))
 (.seq (.seq (.reg [⟨some 5, .mv (.t 0), none⟩,
  ⟨some 6, .bin .gtr [] (.t 5) (.c (.int .i64 4503599627370496)), none⟩])
 (.cond (.t 6)
 (.seq (.reg [⟨some 2, .mv (.c (.int .i64 4503599627370496)), none⟩])
 (.ret))
 (.skip)))
 (.seq (.reg [⟨some 7, .mv (.t 0), none⟩,
  ⟨some 2, .mv (.t 7), none⟩])
 (.ret)))),
 [.tmp 2], true⟩
/-- ephemeris/ephemerisref01.Of -/
def M63 : MFunc := ⟨.seq (.reg [⟨some 2, .al (.vals [(.bool false), .nils]), none⟩])
 (.seq (.reg [⟨some 5, .mv (.t 0), none⟩,
  ⟨some 6, .ci .u64 (.t 5), none⟩,
  ⟨some 3, .mv (.t 6), none⟩])
 (.seq (.reg [⟨some 7, .mv (.t 0), none⟩,
  ⟨some 8, .bin .lss [] (.t 7) (.c (.int .i64 0)), none⟩,
  ⟨some 9, .bld [(.bool false), .nils] [(0, 1, (.t 8))], none⟩,
  ⟨some 4, .al (.vals [(.bool false), .nils]), none⟩,
  ⟨none, .st 2 (.t 4) (.t 9), none⟩])
 (.seq (.seq (.reg [⟨some 10, .mv (.t 0), none⟩,
  ⟨some 11, .bin .lss [] (.t 10) (.c (.int .i64 0)), none⟩])
 (.cond (.t 11)
 (.reg [⟨some 12, .mv (.t 3), none⟩,
  ⟨some 13, .un .neg (.t 12), none⟩,
  ⟨some 3, .mv (.t 13), none⟩])
 (.skip)))
 (.seq (.block 0 [2, 4]
 (.loop [2, 3, 4]
 (.seq (.seq (.reg [⟨some 14, .mv (.t 3), none⟩,
  ⟨some 15, .bin .gtr [] (.t 14) (.c (.int .u64 0)), none⟩])
 (.cond (.t 15)
 (.skip)
 (.exit 0)))
 (.block 1 [2, 3, 4]
 (.seq (.reg [⟨some 16, .fa 1 (.t 4), none⟩,
  ⟨some 17, .ld none (.t 16), none⟩,
  ⟨some 18, .mv (.t 3), none⟩,
  ⟨some 19, .bin .rem [] (.t 18) (.c (.int .u64 65536)), none⟩,
  ⟨some 20, .ci .u32 (.t 19), none⟩,
  ⟨some 21, .bsl (.ints .u32 [0]) 1 1 [(0, 1, (.t 20))], none⟩,
  ⟨some 22, .app (.ints .u32 [0]) 4 (.t 17) (.t 21), none⟩,
  ⟨some 23, .fa 1 (.t 4), none⟩,
  ⟨none, .st 1 (.t 23) (.t 22), none⟩])
 (.reg [⟨some 24, .mv (.t 3), none⟩,
  ⟨some 25, .bin .quo [] (.t 24) (.c (.int .u64 65536)), none⟩,
  ⟨some 3, .mv (.t 25), none⟩]))))))
 (.seq (.reg [⟨some 26, .ld (some 2) (.t 4), none⟩,
  ⟨none, .st 2 (.t 2) (.t 26), none⟩])
 (.ret)))))),
 [.cell 2 (some 2)], true⟩
/-- ephemeris/ephemerisref01.Times -/
def M64 : MFunc := ⟨.seq (.reg [⟨some 2, .bx none 2 (.t 0), none⟩,
  ⟨some 3, .bx none 2 (.t 1), none⟩,
  ⟨some 4, .al (.vals [(.bool false), .nils]), none⟩])
 (.seq (.reg [⟨some 11, .bld [(.bool false), .nils] [], none⟩,
  ⟨some 5, .al (.vals [(.bool false), .nils]), none⟩,
  ⟨none, .st 2 (.t 5) (.t 11), none⟩])
 (.seq (.seq (.reg [⟨some 6, .mv (.c (.int .i64 0)), none⟩])
 (.block 0 [2, 3, 4, 5]
 (.loop [2, 3, 4, 5, 6]
 (.seq (.seq (.reg [⟨some 12, .mv (.t 6), none⟩,
  ⟨some 13, .fa 1 (.t 2), none⟩,
  ⟨some 14, .ld none (.t 13), none⟩,
  ⟨some 15, .len none (.t 14), none⟩,
  ⟨some 16, .bin .lss [] (.t 12) (.t 15), none⟩])
 (.cond (.t 16)
 (.skip)
 (.exit 0)))
 (.seq (.block 1 [2, 3, 4, 5, 6]
 (.seq (.reg [⟨some 19, .mv (.t 6), none⟩,
  ⟨some 20, .mks (.ints .u32 [0]) 4 (.t 19) (.t 19), none⟩,
  ⟨some 7, .mv (.t 20), none⟩])
 (.seq (.reg [⟨some 8, .mv (.c (.int .u64 0)), none⟩])
 (.seq (.seq (.reg [⟨some 9, .mv (.c (.int .i64 0)), none⟩])
 (.block 2 [2, 3, 4, 5, 6, 7]
 (.loop [2, 3, 4, 5, 6, 7, 8, 9]
 (.seq (.seq (.reg [⟨some 21, .mv (.t 9), none⟩,
  ⟨some 22, .fa 1 (.t 3), none⟩,
  ⟨some 23, .ld none (.t 22), none⟩,
  ⟨some 24, .len none (.t 23), none⟩,
  ⟨some 25, .bin .lss [] (.t 21) (.t 24), none⟩,
  ⟨some 26, .mv (.t 25), none⟩,
  ⟨some 27, .mv (.t 8), some (26, false)⟩,
  ⟨some 28, .bin .gtr [] (.t 27) (.c (.int .u64 0)), some (26, false)⟩,
  ⟨some 29, .pick (.t 26) (.c (.bool true)) (.t 28), none⟩])
 (.cond (.t 29)
 (.skip)
 (.exit 2)))
 (.seq (.block 3 [2, 3, 4, 5, 6, 7, 8, 9]
 (.seq (.regd [(0, ⟨some 32, .fa 1 (.t 2), none⟩),
  (1, ⟨some 33, .ld none (.t 32), none⟩),
  (2, ⟨some 34, .mv (.t 6), none⟩),
  (3, ⟨some 35, .ia none 1 (.t 33) (.t 34), none⟩),
  (4, ⟨some 36, .ld none (.t 35), none⟩),
  (5, ⟨some 37, .ci .u64 (.t 36), none⟩),
  (6, ⟨some 38, .fa 1 (.t 3), none⟩),
  (7, ⟨some 39, .ld none (.t 38), none⟩),
  (8, ⟨some 40, .mv (.t 9), none⟩),
  (9, ⟨some 41, .call 92 [(.t 39), (.t 40)], none⟩),
  (10, ⟨some 42, .ci .u64 (.t 41), none⟩),
  (11, ⟨some 43, .bin .mul [] (.t 37) (.t 42), none⟩),
  (12, ⟨some 44, .mv (.t 8), none⟩),
  (13, ⟨some 45, .bin .add [] (.t 43) (.t 44), none⟩),
  (14, ⟨some 10, .mv (.t 45), none⟩)] [(1, 9), (4, 9)])
 (.seq (.reg [⟨some 46, .mv (.t 7), none⟩,
  ⟨some 47, .mv (.t 10), none⟩,
  ⟨some 48, .bin .rem [] (.t 47) (.c (.int .u64 65536)), none⟩,
  ⟨some 49, .ci .u32 (.t 48), none⟩,
  ⟨some 50, .bsl (.ints .u32 [0]) 1 1 [(0, 1, (.t 49))], none⟩,
  ⟨some 51, .app (.ints .u32 [0]) 4 (.t 46) (.t 50), none⟩,
  ⟨some 7, .mv (.t 51), none⟩])
 (.reg [⟨some 52, .mv (.t 10), none⟩,
  ⟨some 53, .bin .quo [] (.t 52) (.c (.int .u64 65536)), none⟩,
  ⟨some 8, .mv (.t 53), none⟩]))))
 (.reg [⟨some 30, .mv (.t 9), none⟩,
  ⟨some 31, .bin .add [] (.t 30) (.c (.int .i64 1)), none⟩,
  ⟨some 9, .mv (.t 31), none⟩]))))))
 (.reg [⟨some 54, .fa 1 (.t 5), none⟩,
  ⟨some 55, .ld none (.t 54), none⟩,
  ⟨some 56, .mv (.t 7), none⟩,
  ⟨some 57, .call 93 [(.t 55), (.t 56)], none⟩,
  ⟨some 58, .fa 1 (.t 5), none⟩,
  ⟨none, .st 1 (.t 58) (.t 57), none⟩])))))
 (.reg [⟨some 17, .mv (.t 6), none⟩,
  ⟨some 18, .bin .add [] (.t 17) (.c (.int .i64 1)), none⟩,
  ⟨some 6, .mv (.t 18), none⟩]))))))
 (.seq (.reg [⟨some 59, .fa 0 (.t 2), none⟩,
  ⟨some 60, .ld none (.t 59), none⟩,
  ⟨some 61, .fa 0 (.t 3), none⟩,
  ⟨some 62, .ld none (.t 61), none⟩,
  ⟨some 63, .bin .neq [1] (.t 60) (.t 62), none⟩,
  ⟨some 64, .fa 0 (.t 5), none⟩,
  ⟨none, .st 1 (.t 64) (.t 63), none⟩])
 (.seq (.reg [⟨some 65, .ld (some 2) (.t 5), none⟩,
  ⟨some 66, .call 94 [(.t 65)], none⟩,
  ⟨none, .st 2 (.t 4) (.t 66), none⟩])
 (.ret))))),
 [.cell 4 (some 2)], true⟩
/-- ephemeris/ephemerisref01.Plus -/
def M65 : MFunc := ⟨.seq (.reg [⟨some 2, .bx none 2 (.t 0), none⟩,
  ⟨some 3, .bx none 2 (.t 1), none⟩,
  ⟨some 4, .al (.vals [(.bool false), .nils]), none⟩])
 (.seq (.seq (.reg [⟨some 5, .fa 0 (.t 2), none⟩,
  ⟨some 6, .ld none (.t 5), none⟩,
  ⟨some 7, .fa 0 (.t 3), none⟩,
  ⟨some 8, .ld none (.t 7), none⟩,
  ⟨some 9, .bin .eql [1] (.t 6) (.t 8), none⟩])
 (.cond (.t 9)
 (.seq (.regd [(0, ⟨some 10, .fa 0 (.t 2), none⟩),
  (1, ⟨some 11, .ld none (.t 10), none⟩),
  (2, ⟨some 12, .fa 1 (.t 2), none⟩),
  (3, ⟨some 13, .ld none (.t 12), none⟩),
  (4, ⟨some 14, .fa 1 (.t 3), none⟩),
  (5, ⟨some 15, .ld none (.t 14), none⟩),
  (6, ⟨some 16, .call 93 [(.t 13), (.t 15)], none⟩),
  (7, ⟨some 17, .bld [(.bool false), .nils] [(0, 1, (.t 11)), (1, 1, (.t 16))], none⟩),
  (8, ⟨some 18, .call 94 [(.t 17)], none⟩),
  (9, ⟨none, .st 2 (.t 4) (.t 18), none⟩)] [(1, 6)])
 (.ret))
 (.skip)))
 (.seq (.seq (.reg [⟨some 19, .fa 1 (.t 2), none⟩,
  ⟨some 20, .ld none (.t 19), none⟩,
  ⟨some 21, .fa 1 (.t 3), none⟩,
  ⟨some 22, .ld none (.t 21), none⟩,
  ⟨some 23, .call 95 [(.t 20), (.t 22)], none⟩])
 (.cond (.t 23)
 (.seq (.regd [(0, ⟨some 24, .fa 0 (.t 3), none⟩),
  (1, ⟨some 25, .ld none (.t 24), none⟩),
  (2, ⟨some 26, .fa 1 (.t 3), none⟩),
  (3, ⟨some 27, .ld none (.t 26), none⟩),
  (4, ⟨some 28, .fa 1 (.t 2), none⟩),
  (5, ⟨some 29, .ld none (.t 28), none⟩),
  (6, ⟨some 30, .call 96 [(.t 27), (.t 29)], none⟩),
  (7, ⟨some 31, .bld [(.bool false), .nils] [(0, 1, (.t 25)), (1, 1, (.t 30))], none⟩),
  (8, ⟨some 32, .call 94 [(.t 31)], none⟩),
  (9, ⟨none, .st 2 (.t 4) (.t 32), none⟩)] [(1, 6)])
 (.ret))
 (.skip)))
 (.seq (.regd [(0, ⟨some 33, .fa 0 (.t 2), none⟩),
  (1, ⟨some 34, .ld none (.t 33), none⟩),
  (2, ⟨some 35, .fa 1 (.t 2), none⟩),
  (3, ⟨some 36, .ld none (.t 35), none⟩),
  (4, ⟨some 37, .fa 1 (.t 3), none⟩),
  (5, ⟨some 38, .ld none (.t 37), none⟩),
  (6, ⟨some 39, .call 96 [(.t 36), (.t 38)], none⟩),
  (7, ⟨some 40, .bld [(.bool false), .nils] [(0, 1, (.t 34)), (1, 1, (.t 39))], none⟩),
  (8, ⟨some 41, .call 94 [(.t 40)], none⟩),
  (9, ⟨none, .st 2 (.t 4) (.t 41), none⟩)] [(1, 6)])
 (.ret)))),
 [.cell 4 (some 2)], true⟩
/-- ephemeris/ephemerisref01.Over -/
def M66 : MFunc := ⟨.seq (.reg [⟨some 4, .mv (.c .nils), none⟩,
  ⟨some 5, .mv (.c .nils), none⟩])
 (.seq (.reg [⟨some 6, .mv (.c .nils), none⟩,
  ⟨some 7, .mv (.c .nils), none⟩])
 (.seq (.seq (.reg [⟨some 11, .mv (.t 0), none⟩,
  ⟨some 12, .len none (.t 11), none⟩,
  ⟨some 13, .bin .sub [] (.t 12) (.c (.int .i64 1)), none⟩,
  ⟨some 8, .mv (.t 13), none⟩])
 (.block 0 [6, 7]
 (.loop [0, 1, 6, 7, 8]
 (.seq (.seq (.reg [⟨some 14, .mv (.t 8), none⟩,
  ⟨some 15, .bin .geq [] (.t 14) (.c (.int .i64 0)), none⟩])
 (.cond (.t 15)
 (.skip)
 (.exit 0)))
 (.seq (.block 1 [0, 1, 6, 7, 8]
 (.seq (.reg [⟨some 9, .mv (.c (.int .u32 0)), none⟩])
 (.seq (.seq (.reg [⟨some 10, .mv (.c (.int .i64 15)), none⟩])
 (.block 2 [0, 1, 6, 7, 8, 9]
 (.loop [0, 1, 6, 7, 8, 9, 10]
 (.seq (.seq (.reg [⟨some 18, .mv (.t 10), none⟩,
  ⟨some 19, .bin .geq [] (.t 18) (.c (.int .i64 0)), none⟩])
 (.cond (.t 19)
 (.skip)
 (.exit 2)))
 (.seq (.block 3 [0, 1, 6, 7, 8, 9, 10]
 (.seq (.reg [⟨some 22, .mv (.t 7), none⟩,
  ⟨some 23, .mv (.t 7), none⟩,
  ⟨some 24, .call 93 [(.t 22), (.t 23)], none⟩,
  ⟨some 7, .mv (.t 24), none⟩])
 (.seq (.seq (.reg [⟨some 25, .mv (.t 0), none⟩,
  ⟨some 26, .mv (.t 8), none⟩,
  ⟨some 27, .ia none 1 (.t 25) (.t 26), none⟩,
  ⟨some 28, .ld none (.t 27), none⟩,
  ⟨some 29, .mv (.t 10), none⟩,
  ⟨some 30, .bin .shr [] (.t 28) (.t 29), none⟩,
  ⟨some 31, .bin .rem [] (.t 30) (.c (.int .u32 2)), none⟩,
  ⟨some 32, .bin .eql [] (.t 31) (.c (.int .u32 1)), none⟩])
 (.cond (.t 32)
 (.reg [⟨some 33, .mv (.t 7), none⟩,
  ⟨some 34, .bsl (.ints .u32 [0]) 1 1 [(0, 1, (.c (.int .u32 1)))], none⟩,
  ⟨some 35, .call 93 [(.t 33), (.t 34)], none⟩,
  ⟨some 7, .mv (.t 35), none⟩])
 (.skip)))
 (.seq (.reg [⟨some 36, .mv (.t 7), none⟩,
  ⟨some 37, .bld [(.bool false), .nils] [(1, 1, (.t 36))], none⟩,
  ⟨some 38, .call 94 [(.t 37)], none⟩,
  ⟨some 39, .fld 1 none (.t 38), none⟩,
  ⟨some 7, .mv (.t 39), none⟩])
 (.seq (.reg [⟨some 40, .mv (.t 9), none⟩,
  ⟨some 41, .bin .mul [] (.t 40) (.c (.int .u32 2)), none⟩,
  ⟨some 9, .mv (.t 41), none⟩])
 (.seq (.reg [⟨some 42, .mv (.t 7), none⟩,
  ⟨some 43, .mv (.t 1), none⟩,
  ⟨some 44, .call 95 [(.t 42), (.t 43)], none⟩,
  ⟨some 45, .un .not (.t 44), none⟩])
 (.cond (.t 45)
 (.seq (.reg [⟨some 46, .mv (.t 7), none⟩,
  ⟨some 47, .mv (.t 1), none⟩,
  ⟨some 48, .call 96 [(.t 46), (.t 47)], none⟩,
  ⟨some 49, .bld [(.bool false), .nils] [(1, 1, (.t 48))], none⟩,
  ⟨some 50, .call 94 [(.t 49)], none⟩,
  ⟨some 51, .fld 1 none (.t 50), none⟩,
  ⟨some 7, .mv (.t 51), none⟩])
 (.reg [⟨some 52, .mv (.t 9), none⟩,
  ⟨some 53, .bin .add [] (.t 52) (.c (.int .u32 1)), none⟩,
  ⟨some 9, .mv (.t 53), none⟩]))
 (.skip))))))))
 (.reg [⟨some 20, .mv (.t 10), none⟩,
  ⟨some 21, .bin .sub [] (.t 20) (.c (.int .i64 1)), none⟩,
  ⟨some 10, .mv (.t 21), none⟩]))))))
 (.reg [⟨some 54, .mv (.t 9), none⟩,
  ⟨some 55, .bsl (.ints .u32 [0]) 1 1 [(0, 1, (.t 54))], none⟩,
  ⟨some 56, .mv (.t 6), none⟩,
  ⟨some 57, .app (.ints .u32 [0]) 4 (.t 55) (.t 56), none⟩,
  ⟨some 6, .mv (.t 57), none⟩]))))
 (.reg [⟨some 16, .mv (.t 8), none⟩,
  ⟨some 17, .bin .sub [] (.t 16) (.c (.int .i64 1)), none⟩,
  ⟨some 8, .mv (.t 17), none⟩]))))))
 (.seq (.reg [⟨some 58, .mv (.t 6), none⟩,
  ⟨some 59, .bld [(.bool false), .nils] [(1, 1, (.t 58))], none⟩,
  ⟨some 60, .call 94 [(.t 59)], none⟩,
  ⟨some 61, .fld 1 none (.t 60), none⟩,
  ⟨some 62, .mv (.t 7), none⟩,
  ⟨some 4, .mv (.t 61), none⟩,
  ⟨some 5, .mv (.t 62), none⟩])
 (.ret)))),
 [.tmp 4, .tmp 5], true⟩
/-- ephemeris/ephemerisref01.Int -/
def M67 : MFunc := ⟨.seq (.reg [⟨some 1, .bx none 2 (.t 0), none⟩,
  ⟨some 2, .mv (.c (.int .i64 0)), none⟩,
  ⟨some 3, .mv (.c (.bool false)), none⟩])
 (.seq (.reg [⟨some 6, .ld (some 2) (.t 1), none⟩,
  ⟨some 7, .call 94 [(.t 6)], none⟩,
  ⟨none, .st 2 (.t 1) (.t 7), none⟩])
 (.seq (.seq (.reg [⟨some 8, .fa 1 (.t 1), none⟩,
  ⟨some 9, .ld none (.t 8), none⟩,
  ⟨some 10, .len none (.t 9), none⟩,
  ⟨some 11, .bin .gtr [] (.t 10) (.c (.int .i64 4)), none⟩])
 (.cond (.t 11)
 (.seq (.reg [⟨some 2, .mv (.c (.int .i64 0)), none⟩,
  ⟨some 3, .mv (.c (.bool false)), none⟩])
 (.ret))
 (.skip)))
 (.seq (.reg [⟨some 4, .mv (.c (.int .u64 0)), none⟩])
 (.seq (.seq (.reg [⟨some 12, .fa 1 (.t 1), none⟩,
  ⟨some 13, .ld none (.t 12), none⟩,
  ⟨some 14, .len none (.t 13), none⟩,
  ⟨some 15, .bin .sub [] (.t 14) (.c (.int .i64 1)), none⟩,
  ⟨some 5, .mv (.t 15), none⟩])
 (.block 0 [1, 4]
 (.loop [1, 4, 5]
 (.seq (.seq (.reg [⟨some 16, .mv (.t 5), none⟩,
  ⟨some 17, .bin .geq [] (.t 16) (.c (.int .i64 0)), none⟩])
 (.cond (.t 17)
 (.skip)
 (.exit 0)))
 (.seq (.block 1 [1, 4, 5]
 (.reg [⟨some 20, .mv (.t 4), none⟩,
  ⟨some 21, .bin .mul [] (.t 20) (.c (.int .u64 65536)), none⟩,
  ⟨some 22, .fa 1 (.t 1), none⟩,
  ⟨some 23, .ld none (.t 22), none⟩,
  ⟨some 24, .mv (.t 5), none⟩,
  ⟨some 25, .ia none 1 (.t 23) (.t 24), none⟩,
  ⟨some 26, .ld none (.t 25), none⟩,
  ⟨some 27, .ci .u64 (.t 26), none⟩,
  ⟨some 28, .bin .add [] (.t 21) (.t 27), none⟩,
  ⟨some 4, .mv (.t 28), none⟩]))
 (.reg [⟨some 18, .mv (.t 5), none⟩,
  ⟨some 19, .bin .sub [] (.t 18) (.c (.int .i64 1)), none⟩,
  ⟨some 5, .mv (.t 19), none⟩]))))))
 (.seq (.seq (.reg [⟨some 29, .fa 0 (.t 1), none⟩,
  ⟨some 30, .ld none (.t 29), none⟩])
 (.cond (.t 30)
 (.seq (.reg [⟨some 31, .mv (.t 4), none⟩,
  ⟨some 32, .un .neg (.t 31), none⟩,
  ⟨some 33, .ci .i64 (.t 32), none⟩,
  ⟨some 34, .mv (.t 4), none⟩,
  ⟨some 35, .bin .leq [] (.t 34) (.c (.int .u64 9223372036854775808)), none⟩,
  ⟨some 2, .mv (.t 33), none⟩,
  ⟨some 3, .mv (.t 35), none⟩])
 (.ret))
 (.skip)))
 (.seq (.reg [⟨some 36, .mv (.t 4), none⟩,
  ⟨some 37, .ci .i64 (.t 36), none⟩,
  ⟨some 38, .mv (.t 4), none⟩,
  ⟨some 39, .bin .leq [] (.t 38) (.c (.int .u64 9223372036854775807)), none⟩,
  ⟨some 2, .mv (.t 37), none⟩,
  ⟨some 3, .mv (.t 39), none⟩])
 (.ret))))))),
 [.tmp 2, .tmp 3], true⟩
/-- ephemeris/ephemerisref01.MulDiv -/
def M68 : MFunc := ⟨.seq (.reg [⟨some 8, .mv (.c (.int .i64 0)), none⟩,
  ⟨some 9, .mv (.c (.int .i64 0)), none⟩])
 (.seq (.seq (.reg [⟨some 13, .mv (.t 2), none⟩,
  ⟨some 14, .bin .leq [] (.t 13) (.c (.int .i64 0)), none⟩])
 (.cond (.t 14)
 (.seq (.reg [⟨some 8, .mv (.c (.int .i64 0)), none⟩,
  ⟨some 9, .mv (.c (.int .i64 1)), none⟩])
 (.ret))
 (.skip)))
 (.seq (.reg [⟨some 15, .mv (.t 0), none⟩,
  ⟨some 16, .call 63 [(.t 15)], none⟩,
  ⟨some 17, .mv (.t 1), none⟩,
  ⟨some 18, .call 63 [(.t 17)], none⟩,
  ⟨some 19, .call 64 [(.t 16), (.t 18)], none⟩,
  ⟨some 10, .al (.vals [(.bool false), .nils]), none⟩,
  ⟨none, .st 2 (.t 10) (.t 19), none⟩])
 (.seq (.regd [(0, ⟨some 21, .fa 1 (.t 10), none⟩),
  (1, ⟨some 22, .ld none (.t 21), none⟩),
  (2, ⟨some 23, .mv (.t 2), none⟩),
  (3, ⟨some 24, .call 63 [(.t 23)], none⟩),
  (4, ⟨some 25, .fld 1 none (.t 24), none⟩),
  (5, ⟨some 26, .call 66 [(.t 22), (.t 25)], none⟩),
  (6, ⟨some 20, .mv (.t 26), none⟩),
  (7, ⟨some 27, .ex 0 (.t 20), none⟩),
  (8, ⟨some 28, .ex 1 (.t 20), none⟩),
  (9, ⟨some 11, .mv (.t 27), none⟩),
  (10, ⟨some 12, .mv (.t 28), none⟩)] [(1, 3)])
 (.seq (.seq (.reg [⟨some 29, .mv (.t 12), none⟩,
  ⟨some 30, .len none (.t 29), none⟩,
  ⟨some 31, .bin .gtr [] (.t 30) (.c (.int .i64 0)), none⟩,
  ⟨some 32, .mv (.t 31), none⟩,
  ⟨some 33, .fa 0 (.t 10), some (32, true)⟩,
  ⟨some 34, .ld none (.t 33), some (32, true)⟩,
  ⟨some 35, .mv (.t 3), some (32, true)⟩,
  ⟨some 36, .bin .neq [1] (.t 34) (.t 35), some (32, true)⟩,
  ⟨some 37, .pick (.t 32) (.t 36) (.c (.bool false)), none⟩])
 (.cond (.t 37)
 (.reg [⟨some 38, .mv (.t 11), none⟩,
  ⟨some 39, .bsl (.ints .u32 [0]) 1 1 [(0, 1, (.c (.int .u32 1)))], none⟩,
  ⟨some 40, .call 93 [(.t 38), (.t 39)], none⟩,
  ⟨some 11, .mv (.t 40), none⟩])
 (.skip)))
 (.seq (.reg [⟨some 41, .fa 0 (.t 10), none⟩,
  ⟨some 42, .ld none (.t 41), none⟩,
  ⟨some 43, .mv (.t 11), none⟩,
  ⟨some 44, .bld [(.bool false), .nils] [(0, 1, (.t 42)), (1, 1, (.t 43))], none⟩,
  ⟨some 45, .call 97 [(.t 44)], none⟩,
  ⟨some 46, .ex 0 (.t 45), none⟩,
  ⟨some 47, .ex 1 (.t 45), none⟩,
  ⟨some 8, .mv (.t 46), none⟩,
  ⟨some 9, .mv (.t 47), none⟩])
 (.ret)))))),
 [.tmp 8, .tmp 9], true⟩
/-- (*ephemeris/sky.Sky).Off_1 -/
def M69 : MFunc := ⟨.seq (.reg [⟨some 4, .mv (.c (.bool false)), none⟩])
 (.seq (.regd [(0, ⟨some 5, .ld none (.t 1), none⟩),
  (1, ⟨some 6, .nc (.t 5), none⟩),
  (2, ⟨some 7, .fa 3 (.t 6), none⟩),
  (3, ⟨some 8, .ld none (.t 7), none⟩),
  (4, ⟨some 9, .mv (.t 0), none⟩),
  (5, ⟨some 10, .ia none 2 (.t 8) (.t 9), none⟩),
  (6, ⟨some 11, .fa 0 (.t 10), none⟩),
  (7, ⟨some 12, .ld none (.t 11), none⟩),
  (8, ⟨some 13, .ld none (.t 2), none⟩),
  (9, ⟨some 14, .bin .gtr [] (.t 12) (.t 13), none⟩),
  (10, ⟨some 4, .mv (.t 14), none⟩)] [])
 (.ret)),
 [.tmp 4], true⟩
/-- ephemeris/ephemerisref01.Abs -/
def M70 : MFunc := ⟨.seq (.reg [⟨some 2, .mv (.c (.int .i64 0)), none⟩])
 (.seq (.seq (.reg [⟨some 3, .mv (.t 0), none⟩,
  ⟨some 4, .bin .eql [] (.t 3) (.c (.int .i64 (-9223372036854775808))), none⟩])
 (.cond (.t 4)
 (.seq (.reg [⟨some 2, .mv (.c (.int .i64 9223372036854775807)), none⟩])
 (.ret))
 (.skip)))
 (.seq (.seq (.reg [⟨some 5, .mv (.t 0), none⟩,
  ⟨some 6, .bin .lss [] (.t 5) (.c (.int .i64 0)), none⟩])
 (.cond (.t 6)
 (.seq (.reg [⟨some 7, .mv (.t 0), none⟩,
  ⟨some 8, .un .neg (.t 7), none⟩,
  ⟨some 2, .mv (.t 8), none⟩])
 (.ret))
 (.skip)))
 (.seq (.reg [⟨some 9, .mv (.t 0), none⟩,
  ⟨some 2, .mv (.t 9), none⟩])
 (.ret)))),
 [.tmp 2], true⟩
/-- (*ephemeris/span.Ruler).none -/
def M71 : MFunc := ⟨.seq (.reg [⟨some 2, .mv (.c (.bool false)), none⟩])
 (.seq (.reg [⟨some 3, .mv (.t 0), none⟩,
  ⟨some 4, .bin .eql [2] (.t 3) (.c .nilp), none⟩,
  ⟨some 5, .mv (.t 4), none⟩,
  ⟨some 6, .mv (.t 0), some (5, false)⟩,
  ⟨some 7, .nc (.t 6), some (5, false)⟩,
  ⟨some 8, .fa 2 (.t 7), some (5, false)⟩,
  ⟨some 9, .ld none (.t 8), some (5, false)⟩,
  ⟨some 10, .un .not (.t 9), some (5, false)⟩,
  ⟨some 11, .pick (.t 5) (.c (.bool true)) (.t 10), none⟩,
  ⟨some 2, .mv (.t 11), none⟩])
 (.ret)),
 [.tmp 2], true⟩
/-- ephemeris/fix.MulDivUp -/
def M72 : MFunc := ⟨.seq (.reg [⟨some 6, .mv (.c (.int .i64 0)), none⟩,
  ⟨some 7, .mv (.c (.int .i64 0)), none⟩])
 (.seq (.reg [⟨some 8, .mv (.t 0), none⟩,
  ⟨some 9, .mv (.t 1), none⟩,
  ⟨some 10, .mv (.t 2), none⟩,
  ⟨some 11, .call 98 [(.t 8), (.t 9), (.t 10), (.f 99)], none⟩,
  ⟨some 12, .ex 0 (.t 11), none⟩,
  ⟨some 13, .ex 1 (.t 11), none⟩,
  ⟨some 6, .mv (.t 12), none⟩,
  ⟨some 7, .mv (.t 13), none⟩])
 (.ret)),
 [.tmp 6, .tmp 7], true⟩
/-- ephemeris/span.brought -/
def M73 : MFunc := ⟨.seq (.reg [⟨some 2, .mv (.c (.int .i64 0)), none⟩])
 (.seq (.reg [⟨some 3, .mv (.t 0), none⟩,
  ⟨some 4, .call 88 [(.t 3), (.c (.int .i64 0)), (.c (.int .i64 4611686018427387904))], none⟩,
  ⟨some 2, .mv (.t 4), none⟩])
 (.ret)),
 [.tmp 2], true⟩
/-- ephemeris/fix.MulDiv -/
def M74 : MFunc := ⟨.seq (.reg [⟨some 6, .mv (.c (.int .i64 0)), none⟩,
  ⟨some 7, .mv (.c (.int .i64 0)), none⟩])
 (.seq (.reg [⟨some 8, .mv (.t 0), none⟩,
  ⟨some 9, .mv (.t 1), none⟩,
  ⟨some 10, .mv (.t 2), none⟩,
  ⟨some 11, .call 98 [(.t 8), (.t 9), (.t 10), (.f 100)], none⟩,
  ⟨some 12, .ex 0 (.t 11), none⟩,
  ⟨some 13, .ex 1 (.t 11), none⟩,
  ⟨some 6, .mv (.t 12), none⟩,
  ⟨some 7, .mv (.t 13), none⟩])
 (.ret)),
 [.tmp 6, .tmp 7], true⟩
/-- (*ephemeris/filter.Filter).none -/
def M75 : MFunc := ⟨.seq (.reg [⟨some 2, .mv (.c (.bool false)), none⟩])
 (.seq (.reg [⟨some 3, .mv (.t 0), none⟩,
  ⟨some 4, .bin .eql [2] (.t 3) (.c .nilp), none⟩,
  ⟨some 5, .mv (.t 4), none⟩,
  ⟨some 6, .mv (.t 0), some (5, false)⟩,
  ⟨some 7, .nc (.t 6), some (5, false)⟩,
  ⟨some 8, .fa 0 (.t 7), some (5, false)⟩,
  ⟨some 9, .ld none (.t 8), some (5, false)⟩,
  ⟨some 10, .bin .eql [2] (.t 9) (.c .nilp), some (5, false)⟩,
  ⟨some 11, .pick (.t 5) (.c (.bool true)) (.t 10), none⟩,
  ⟨some 2, .mv (.t 11), none⟩])
 (.ret)),
 [.tmp 2], true⟩
/-- ephemeris/span.May -/
def M76 : MFunc := ⟨.seq (.reg [⟨some 1, .bx (some .i64) 3 (.t 0), none⟩,
  ⟨some 2, .mv (.c (.bool false)), none⟩])
 (.seq (.reg [⟨some 3, .fa 0 (.t 1), none⟩,
  ⟨some 4, .ld none (.t 3), none⟩,
  ⟨some 5, .fa 1 (.t 1), none⟩,
  ⟨some 6, .ld none (.t 5), none⟩,
  ⟨some 7, .fa 2 (.t 1), none⟩,
  ⟨some 8, .ld none (.t 7), none⟩,
  ⟨some 9, .bsl (.ints .i64 [0]) 3 1 [(0, 1, (.t 4)), (1, 1, (.t 6)), (2, 1, (.t 8))], none⟩,
  ⟨some 10, .call 101 [(.t 9)], none⟩,
  ⟨some 11, .mv (.t 10), none⟩,
  ⟨some 12, .fa 1 (.t 1), some (11, true)⟩,
  ⟨some 13, .ld none (.t 12), some (11, true)⟩,
  ⟨some 14, .fa 2 (.t 1), some (11, true)⟩,
  ⟨some 15, .ld none (.t 14), some (11, true)⟩,
  ⟨some 16, .bin .leq [] (.t 13) (.t 15), some (11, true)⟩,
  ⟨some 17, .pick (.t 11) (.t 16) (.c (.bool false)), none⟩,
  ⟨some 2, .mv (.t 17), none⟩])
 (.ret)),
 [.tmp 2], true⟩
/-- (*ephemeris/filter.Filter).jumps -/
def M77 : MFunc := ⟨.seq (.reg [⟨some 3, .bx (some .i64) 3 (.t 1), none⟩,
  ⟨some 4, .mv (.c (.bool false)), none⟩])
 (.seq (.reg [⟨some 9, .mv (.t 0), none⟩,
  ⟨some 10, .fa 0 (.t 3), none⟩,
  ⟨some 11, .ld none (.t 10), none⟩,
  ⟨some 12, .call 35 [(.t 9), (.t 11)], none⟩,
  ⟨some 8, .mv (.t 12), none⟩,
  ⟨some 13, .ex 0 (.t 8), none⟩,
  ⟨some 14, .ex 1 (.t 8), none⟩,
  ⟨some 5, .al (.ints .i64 [0, 0, 0]), none⟩,
  ⟨none, .st 3 (.t 5) (.t 13), none⟩,
  ⟨some 6, .mv (.t 14), none⟩])
 (.seq (.seq (.reg [⟨some 15, .mv (.t 6), none⟩,
  ⟨some 16, .un .not (.t 15), none⟩,
  ⟨some 17, .mv (.t 16), none⟩,
  ⟨some 18, .mv (.t 0), some (17, false)⟩,
  ⟨some 19, .nc (.t 18), some (17, false)⟩,
  ⟨some 20, .fa 25 (.t 19), some (17, false)⟩,
  ⟨some 21, .ld none (.t 20), some (17, false)⟩,
  ⟨some 22, .bin .lss [] (.t 21) (.c (.int .i64 3)), some (17, false)⟩,
  ⟨some 23, .pick (.t 17) (.c (.bool true)) (.t 22), none⟩])
 (.cond (.t 23)
 (.seq (.reg [⟨some 4, .mv (.c (.bool false)), none⟩])
 (.ret))
 (.skip)))
 (.seq (.regd [(0, ⟨some 24, .ld (some 3) (.t 3), none⟩),
  (1, ⟨some 25, .call 38 [(.t 24)], none⟩),
  (2, ⟨some 26, .ld (some 3) (.t 5), none⟩),
  (3, ⟨some 27, .call 38 [(.t 26)], none⟩),
  (4, ⟨some 28, .call 102 [(.t 25), (.t 27)], none⟩),
  (5, ⟨some 7, .mv (.t 28), none⟩)] [(2, 1)])
 (.seq (.seq (.reg [⟨some 29, .mv (.c (.int .i64 0)), none⟩])
 (.block 0 [3, 5, 7]
 (.loop [0, 3, 5, 7, 29]
 (.seq (.reg [⟨some 30, .bin .lss [] (.t 29) (.c (.int .i64 3)), none⟩])
 (.seq (.cond (.t 30)
 (.skip)
 (.exit 0))
 (.seq (.block 1 [0, 3, 5, 7, 29]
 (.reg [⟨some 31, .mv (.t 7), none⟩,
  ⟨some 32, .mv (.t 0), none⟩,
  ⟨some 33, .fa 0 (.t 3), none⟩,
  ⟨some 34, .ld none (.t 33), none⟩,
  ⟨some 35, .call 43 [(.t 32), (.t 34)], none⟩,
  ⟨some 36, .call 102 [(.t 31), (.t 35)], none⟩,
  ⟨some 7, .mv (.t 36), none⟩]))
 (.reg [⟨some 37, .bin .add [] (.t 29) (.c (.int .i64 1)), none⟩,
  ⟨some 29, .mv (.t 37), none⟩])))))))
 (.seq (.reg [⟨some 38, .ld (some 3) (.t 3), none⟩,
  ⟨some 39, .ld (some 3) (.t 5), none⟩,
  ⟨some 40, .call 82 [(.t 38), (.t 39)], none⟩,
  ⟨some 41, .mv (.t 7), none⟩,
  ⟨some 42, .bin .gtr [] (.t 40) (.t 41), none⟩,
  ⟨some 4, .mv (.t 42), none⟩])
 (.ret)))))),
 [.tmp 4], true⟩
/-- (*ephemeris/filter.Filter).aged -/
def M78 : MFunc := ⟨.seq (.reg [⟨some 4, .mv (.c .nils), none⟩,
  ⟨some 5, .mv (.c (.bool false)), none⟩])
 (.seq (.seq (.reg [⟨some 11, .mv (.t 0), none⟩,
  ⟨some 12, .call 75 [(.t 11)], none⟩,
  ⟨some 13, .mv (.t 12), none⟩,
  ⟨some 14, .mv (.t 0), some (13, false)⟩,
  ⟨some 15, .nc (.t 14), some (13, false)⟩,
  ⟨some 16, .fa 25 (.t 15), some (13, false)⟩,
  ⟨some 17, .ld none (.t 16), some (13, false)⟩,
  ⟨some 18, .bin .eql [] (.t 17) (.c (.int .i64 0)), some (13, false)⟩,
  ⟨some 19, .pick (.t 13) (.c (.bool true)) (.t 18), none⟩])
 (.cond (.t 19)
 (.seq (.reg [⟨some 4, .mv (.c .nils), none⟩,
  ⟨some 5, .mv (.c (.bool false)), none⟩])
 (.ret))
 (.skip)))
 (.seq (.reg [⟨some 20, .mv (.t 0), none⟩,
  ⟨some 21, .call 41 [(.t 20)], none⟩,
  ⟨some 6, .mv (.t 21), none⟩])
 (.seq (.seq (.reg [⟨some 22, .mv (.t 6), none⟩,
  ⟨some 23, .len none (.t 22), none⟩,
  ⟨some 24, .mv (.c (.int .i64 0)), none⟩])
 (.block 0 [6]
 (.loop [0, 1, 6, 22, 23, 24]
 (.seq (.reg [⟨some 25, .bin .lss [] (.t 24) (.t 23), none⟩])
 (.seq (.cond (.t 25)
 (.skip)
 (.exit 0))
 (.seq (.block 1 [0, 1, 6, 22, 23, 24]
 (.seq (.reg [⟨some 26, .mv (.t 24), none⟩,
  ⟨some 27, .ia none 3 (.t 22) (.t 24), none⟩,
  ⟨some 28, .ld (some 3) (.t 27), none⟩,
  ⟨some 8, .al (.ints .i64 [0, 0, 0]), none⟩,
  ⟨some 7, .mv (.t 26), none⟩,
  ⟨none, .st 3 (.t 8) (.t 28), none⟩])
 (.seq (.regd [(0, ⟨some 30, .mv (.t 0), none⟩),
  (1, ⟨some 31, .nc (.t 30), none⟩),
  (2, ⟨some 32, .fa 0 (.t 31), none⟩),
  (3, ⟨some 33, .ld none (.t 32), none⟩),
  (4, ⟨some 34, .ld (some 3) (.t 8), none⟩),
  (5, ⟨some 35, .mv (.t 1), none⟩),
  (6, ⟨some 36, .call 37 [(.t 33), (.t 34), (.t 35)], none⟩),
  (7, ⟨some 29, .mv (.t 36), none⟩),
  (8, ⟨some 37, .ex 0 (.t 29), none⟩),
  (9, ⟨some 38, .ex 1 (.t 29), none⟩),
  (10, ⟨some 9, .al (.ints .i64 [0, 0, 0]), none⟩),
  (11, ⟨none, .st 3 (.t 9) (.t 37), none⟩),
  (12, ⟨some 10, .mv (.t 38), none⟩)] [])
 (.seq (.seq (.reg [⟨some 39, .mv (.t 10), none⟩,
  ⟨some 40, .bin .neq [] (.t 39) (.c (.int .i64 0)), none⟩])
 (.cond (.t 40)
 (.seq (.reg [⟨some 4, .mv (.c .nils), none⟩,
  ⟨some 5, .mv (.c (.bool false)), none⟩])
 (.ret))
 (.skip)))
 (.reg [⟨some 41, .mv (.t 6), none⟩,
  ⟨some 42, .mv (.t 7), none⟩,
  ⟨some 43, .ld (some 3) (.t 9), none⟩,
  ⟨some 44, .ia none 3 (.t 41) (.t 42), none⟩,
  ⟨none, .st 3 (.t 44) (.t 43), none⟩])))))
 (.reg [⟨some 45, .bin .add [] (.t 24) (.c (.int .i64 1)), none⟩,
  ⟨some 24, .mv (.t 45), none⟩])))))))
 (.seq (.reg [⟨some 46, .mv (.t 6), none⟩,
  ⟨some 4, .mv (.t 46), none⟩,
  ⟨some 5, .mv (.c (.bool true)), none⟩])
 (.ret))))),
 [.tmp 4, .tmp 5], true⟩
/-- ephemeris/filter.best -/
def M79 : MFunc := ⟨.seq (.reg [⟨some 1, .bx none 1 (.t 0), none⟩,
  ⟨some 2, .mv (.c (.int .i64 0)), none⟩])
 (.seq (.reg [⟨some 3, .al (.ints .i64 [0]), none⟩,
  ⟨none, .st 1 (.t 3) (.c (.int .i64 0)), none⟩])
 (.seq (.reg [⟨some 6, .mf 103 [(.t 1), (.t 3)], none⟩,
  ⟨some 4, .mv (.t 6), none⟩])
 (.seq (.seq (.reg [⟨some 7, .ld none (.t 1), none⟩,
  ⟨some 8, .len none (.t 7), none⟩,
  ⟨some 9, .mv (.c (.int .i64 0)), none⟩])
 (.block 0 [3]
 (.loop [3, 4, 8, 9]
 (.seq (.reg [⟨some 10, .bin .lss [] (.t 9) (.t 8), none⟩])
 (.seq (.cond (.t 10)
 (.skip)
 (.exit 0))
 (.seq (.block 1 [3, 4, 8, 9]
 (.seq (.reg [⟨some 11, .mv (.t 9), none⟩,
  ⟨some 5, .mv (.t 11), none⟩])
 (.seq (.reg [⟨some 12, .mv (.t 4), none⟩,
  ⟨some 13, .mv (.t 5), none⟩,
  ⟨some 14, .calld (.t 12) [(.t 13)], none⟩])
 (.cond (.t 14)
 (.reg [⟨some 15, .mv (.t 5), none⟩,
  ⟨none, .st 1 (.t 3) (.t 15), none⟩])
 (.skip)))))
 (.reg [⟨some 16, .bin .add [] (.t 9) (.c (.int .i64 1)), none⟩,
  ⟨some 9, .mv (.t 16), none⟩])))))))
 (.seq (.reg [⟨some 17, .ld none (.t 3), none⟩,
  ⟨some 2, .mv (.t 17), none⟩])
 (.ret))))),
 [.tmp 2], true⟩
/-- ephemeris/span.ends -/
def M80 : MFunc := ⟨.seq (.reg [⟨some 3, .bx (some .i64) 4 (.t 1), none⟩,
  ⟨some 4, .al (.ints .i64 [0, 0, 0]), none⟩])
 (.seq (.reg [⟨some 6, .mf 104 [(.t 3)], none⟩,
  ⟨some 5, .mv (.t 6), none⟩])
 (.seq (.reg [⟨some 7, .mv (.t 0), none⟩,
  ⟨some 8, .mv (.t 5), none⟩,
  ⟨some 9, .calld (.t 8) [(.c (.int .i64 0))], none⟩,
  ⟨some 10, .mv (.t 5), none⟩,
  ⟨some 11, .calld (.t 10) [(.c (.int .i64 1))], none⟩,
  ⟨some 12, .bld [(.int .i64 0), (.int .i64 0), (.int .i64 0)] [(0, 1, (.t 7)), (1, 1, (.t 9)), (2, 1, (.t 11))], none⟩,
  ⟨none, .st 3 (.t 4) (.t 12), none⟩])
 (.ret))),
 [.cell 4 (some 3)], true⟩
/-- slices.Clone[[]ephemeris/api.Span,ephemeris/api.Span] -/
def M81 : MFunc := ⟨.seq (.reg [⟨some 2, .mv (.c .nils), none⟩])
 (.seq (.seq (.reg [⟨some 3, .mv (.t 0), none⟩,
  ⟨some 4, .bin .eql [3] (.t 3) (.c .nils), none⟩])
 (.cond (.t 4)
 (.seq (.reg [⟨some 2, .mv (.c .nils), none⟩])
 (.ret))
 (.skip)))
 (.seq (.reg [⟨some 5, .bsl (.ints .i64 [0, 0, 0]) 0 3 [], none⟩,
  ⟨some 6, .mv (.t 0), none⟩,
  ⟨some 7, .app (.ints .i64 [0, 0, 0]) 24 (.t 5) (.t 6), none⟩,
  ⟨some 2, .mv (.t 7), none⟩])
 (.ret))),
 [.tmp 2], true⟩
/-- ephemeris/filter.apart -/
def M82 : MFunc := ⟨.seq (.reg [⟨some 2, .bx (some .i64) 3 (.t 0), none⟩,
  ⟨some 3, .bx (some .i64) 3 (.t 1), none⟩,
  ⟨some 4, .mv (.c (.int .i64 0)), none⟩])
 (.seq (.regd [(0, ⟨some 5, .ld (some 3) (.t 2), none⟩),
  (1, ⟨some 6, .call 105 [(.t 5)], none⟩),
  (2, ⟨some 7, .ld (some 3) (.t 3), none⟩),
  (3, ⟨some 8, .call 105 [(.t 7)], none⟩),
  (4, ⟨some 9, .bin .sub [] (.t 6) (.t 8), none⟩),
  (5, ⟨some 10, .call 59 [(.t 9)], none⟩),
  (6, ⟨some 4, .mv (.t 10), none⟩)] [(2, 1)])
 (.ret)),
 [.tmp 4], true⟩
/-- ephemeris/ephemerisref19.New -/
def M83 : MFunc := ⟨.seq (.reg [⟨some 4, .mv (.c .nilp), none⟩,
  ⟨some 5, .mv (.c (.int .i64 0)), none⟩])
 (.seq (.seq (.reg [⟨some 6, .mv (.t 0), none⟩,
  ⟨some 7, .bin .lss [] (.t 6) (.c (.int .i64 1)), none⟩,
  ⟨some 8, .mv (.t 7), none⟩,
  ⟨some 9, .mv (.t 0), some (8, false)⟩,
  ⟨some 10, .bin .gtr [] (.t 9) (.c (.int .i64 1000000000)), some (8, false)⟩,
  ⟨some 11, .pick (.t 8) (.c (.bool true)) (.t 10), none⟩,
  ⟨some 12, .mv (.t 11), none⟩,
  ⟨some 13, .mv (.t 1), some (12, false)⟩,
  ⟨some 14, .bin .lss [] (.t 13) (.c (.int .i64 0)), some (12, false)⟩,
  ⟨some 15, .pick (.t 12) (.c (.bool true)) (.t 14), none⟩,
  ⟨some 16, .mv (.t 15), none⟩,
  ⟨some 17, .mv (.t 1), some (16, false)⟩,
  ⟨some 18, .bin .gtr [] (.t 17) (.c (.int .i64 500000)), some (16, false)⟩,
  ⟨some 19, .pick (.t 16) (.c (.bool true)) (.t 18), none⟩])
 (.cond (.t 19)
 (.seq (.reg [⟨some 4, .mv (.c .nilp), none⟩,
  ⟨some 5, .mv (.c (.int .i64 1)), none⟩])
 (.ret))
 (.skip)))
 (.seq (.reg [⟨some 20, .mv (.t 0), none⟩,
  ⟨some 21, .mv (.t 1), none⟩,
  ⟨some 22, .bld [(.int .i64 0), (.int .i64 0)] [(0, 1, (.t 20)), (1, 1, (.t 21))], none⟩,
  ⟨some 23, .bx (some .i64) 2 (.t 22), none⟩,
  ⟨some 4, .mv (.t 23), none⟩,
  ⟨some 5, .mv (.c (.int .i64 0)), none⟩])
 (.ret))),
 [.tmp 4, .tmp 5], true⟩
/-- ephemeris/ephemerisref19.May -/
def M84 : MFunc := ⟨.seq (.reg [⟨some 1, .bx (some .i64) 3 (.t 0), none⟩,
  ⟨some 2, .mv (.c (.bool false)), none⟩])
 (.seq (.reg [⟨some 3, .fa 0 (.t 1), none⟩,
  ⟨some 4, .ld none (.t 3), none⟩,
  ⟨some 5, .fa 1 (.t 1), none⟩,
  ⟨some 6, .ld none (.t 5), none⟩,
  ⟨some 7, .fa 2 (.t 1), none⟩,
  ⟨some 8, .ld none (.t 7), none⟩,
  ⟨some 9, .bsl (.ints .i64 [0]) 3 1 [(0, 1, (.t 4)), (1, 1, (.t 6)), (2, 1, (.t 8))], none⟩,
  ⟨some 10, .call 106 [(.t 9)], none⟩,
  ⟨some 11, .mv (.t 10), none⟩,
  ⟨some 12, .fa 1 (.t 1), some (11, true)⟩,
  ⟨some 13, .ld none (.t 12), some (11, true)⟩,
  ⟨some 14, .fa 2 (.t 1), some (11, true)⟩,
  ⟨some 15, .ld none (.t 14), some (11, true)⟩,
  ⟨some 16, .bin .leq [] (.t 13) (.t 15), some (11, true)⟩,
  ⟨some 17, .pick (.t 11) (.t 16) (.c (.bool false)), none⟩,
  ⟨some 2, .mv (.t 17), none⟩])
 (.ret)),
 [.tmp 2], true⟩
/-- (*ephemeris/ephemerisref20.Filter).Jumps -/
def M85 : MFunc := ⟨.seq (.reg [⟨some 3, .bx (some .i64) 3 (.t 1), none⟩,
  ⟨some 4, .mv (.c (.bool false)), none⟩])
 (.seq (.reg [⟨some 9, .mv (.t 0), none⟩,
  ⟨some 10, .fa 0 (.t 3), none⟩,
  ⟨some 11, .ld none (.t 10), none⟩,
  ⟨some 12, .call 48 [(.t 9), (.t 11)], none⟩,
  ⟨some 8, .mv (.t 12), none⟩,
  ⟨some 13, .ex 0 (.t 8), none⟩,
  ⟨some 14, .ex 1 (.t 8), none⟩,
  ⟨some 5, .al (.ints .i64 [0, 0, 0]), none⟩,
  ⟨none, .st 3 (.t 5) (.t 13), none⟩,
  ⟨some 6, .mv (.t 14), none⟩])
 (.seq (.seq (.reg [⟨some 15, .mv (.t 6), none⟩,
  ⟨some 16, .bin .lss [] (.t 15) (.c (.int .i64 0)), none⟩,
  ⟨some 17, .mv (.t 16), none⟩,
  ⟨some 18, .mv (.t 0), some (17, false)⟩,
  ⟨some 19, .nc (.t 18), some (17, false)⟩,
  ⟨some 20, .fa 1 (.t 19), some (17, false)⟩,
  ⟨some 21, .ld none (.t 20), some (17, false)⟩,
  ⟨some 22, .len none (.t 21), some (17, false)⟩,
  ⟨some 23, .bin .lss [] (.t 22) (.c (.int .i64 3)), some (17, false)⟩,
  ⟨some 24, .pick (.t 17) (.c (.bool true)) (.t 23), none⟩])
 (.cond (.t 24)
 (.seq (.reg [⟨some 4, .mv (.c (.bool false)), none⟩])
 (.ret))
 (.skip)))
 (.seq (.regd [(0, ⟨some 25, .call 63 [(.c (.int .i64 3))], none⟩),
  (1, ⟨some 26, .mv (.t 0), none⟩),
  (2, ⟨some 27, .fa 0 (.t 3), none⟩),
  (3, ⟨some 28, .ld none (.t 27), none⟩),
  (4, ⟨some 29, .call 49 [(.t 26), (.t 28)], none⟩),
  (5, ⟨some 30, .call 63 [(.t 29)], none⟩),
  (6, ⟨some 31, .call 64 [(.t 25), (.t 30)], none⟩),
  (7, ⟨some 7, .al (.vals [(.bool false), .nils]), none⟩),
  (8, ⟨none, .st 2 (.t 7) (.t 31), none⟩)] [(3, 0)])
 (.seq (.regd [(0, ⟨some 32, .ld (some 2) (.t 7), none⟩),
  (1, ⟨some 33, .fa 2 (.t 3), none⟩),
  (2, ⟨some 34, .ld none (.t 33), none⟩),
  (3, ⟨some 35, .fa 1 (.t 3), none⟩),
  (4, ⟨some 36, .ld none (.t 35), none⟩),
  (5, ⟨some 37, .bin .sub [] (.t 34) (.t 36), none⟩),
  (6, ⟨some 38, .call 63 [(.t 37)], none⟩),
  (7, ⟨some 39, .call 65 [(.t 32), (.t 38)], none⟩),
  (8, ⟨none, .st 2 (.t 7) (.t 39), none⟩)] [(0, 6)])
 (.seq (.regd [(0, ⟨some 40, .ld (some 2) (.t 7), none⟩),
  (1, ⟨some 41, .fa 2 (.t 5), none⟩),
  (2, ⟨some 42, .ld none (.t 41), none⟩),
  (3, ⟨some 43, .fa 1 (.t 5), none⟩),
  (4, ⟨some 44, .ld none (.t 43), none⟩),
  (5, ⟨some 45, .bin .sub [] (.t 42) (.t 44), none⟩),
  (6, ⟨some 46, .call 63 [(.t 45)], none⟩),
  (7, ⟨some 47, .call 65 [(.t 40), (.t 46)], none⟩),
  (8, ⟨none, .st 2 (.t 7) (.t 47), none⟩)] [(0, 6)])
 (.seq (.regd [(0, ⟨some 48, .fa 1 (.t 7), none⟩),
  (1, ⟨some 49, .ld none (.t 48), none⟩),
  (2, ⟨some 50, .ld (some 3) (.t 3), none⟩),
  (3, ⟨some 51, .ld (some 3) (.t 5), none⟩),
  (4, ⟨some 52, .call 87 [(.t 50), (.t 51)], none⟩),
  (5, ⟨some 53, .call 63 [(.t 52)], none⟩),
  (6, ⟨some 54, .fld 1 none (.t 53), none⟩),
  (7, ⟨some 55, .call 95 [(.t 49), (.t 54)], none⟩),
  (8, ⟨some 4, .mv (.t 55), none⟩)] [(1, 4), (1, 5)])
 (.ret))))))),
 [.tmp 4], true⟩
/-- (*ephemeris/ephemerisref19.Ruler).Age -/
def M86 : MFunc := ⟨.seq (.reg [⟨some 4, .bx (some .i64) 3 (.t 1), none⟩,
  ⟨some 6, .al (.ints .i64 [0, 0, 0]), none⟩,
  ⟨some 7, .mv (.c (.int .i64 0)), none⟩])
 (.seq (.seq (.reg [⟨some 8, .ld (some 3) (.t 4), none⟩,
  ⟨some 9, .call 84 [(.t 8)], none⟩,
  ⟨some 10, .un .not (.t 9), none⟩,
  ⟨some 11, .mv (.t 10), none⟩,
  ⟨some 12, .mv (.t 2), some (11, false)⟩,
  ⟨some 13, .fa 0 (.t 4), some (11, false)⟩,
  ⟨some 14, .ld none (.t 13), some (11, false)⟩,
  ⟨some 15, .bin .lss [] (.t 12) (.t 14), some (11, false)⟩,
  ⟨some 16, .pick (.t 11) (.c (.bool true)) (.t 15), none⟩,
  ⟨some 17, .mv (.t 16), none⟩,
  ⟨some 18, .mv (.t 2), some (17, false)⟩,
  ⟨some 19, .bin .gtr [] (.t 18) (.c (.int .i64 4611686018427387904)), some (17, false)⟩,
  ⟨some 20, .pick (.t 17) (.c (.bool true)) (.t 19), none⟩])
 (.cond (.t 20)
 (.seq (.reg [⟨some 21, .bld [(.int .i64 0), (.int .i64 0), (.int .i64 0)] [], none⟩,
  ⟨none, .st 3 (.t 6) (.t 21), none⟩,
  ⟨some 7, .mv (.c (.int .i64 1)), none⟩])
 (.ret))
 (.skip)))
 (.seq (.regd [(0, ⟨some 22, .mv (.t 2), none⟩),
  (1, ⟨some 23, .fa 1 (.t 4), none⟩),
  (2, ⟨some 24, .ld none (.t 23), none⟩),
  (3, ⟨some 25, .mv (.t 0), none⟩),
  (4, ⟨some 26, .mv (.t 2), none⟩),
  (5, ⟨some 27, .fa 0 (.t 4), none⟩),
  (6, ⟨some 28, .ld none (.t 27), none⟩),
  (7, ⟨some 29, .bin .sub [] (.t 26) (.t 28), none⟩),
  (8, ⟨some 30, .call 108 [(.t 25), (.t 29)], none⟩),
  (11, ⟨some 33, .fa 2 (.t 4), none⟩),
  (12, ⟨some 34, .ld none (.t 33), none⟩),
  (13, ⟨some 35, .mv (.t 0), none⟩),
  (14, ⟨some 36, .mv (.t 2), none⟩),
  (15, ⟨some 37, .fa 0 (.t 4), none⟩),
  (16, ⟨some 38, .ld none (.t 37), none⟩),
  (17, ⟨some 39, .bin .sub [] (.t 36) (.t 38), none⟩),
  (9, ⟨some 31, .bsl (.ints .i64 [0]) 2 1 [(0, 1, (.t 24)), (1, 1, (.t 30))], none⟩),
  (10, ⟨some 32, .call 107 [(.t 31)], none⟩),
  (18, ⟨some 40, .call 109 [(.t 35), (.t 39)], none⟩),
  (19, ⟨some 41, .bsl (.ints .i64 [0]) 2 1 [(0, 1, (.t 34)), (1, 1, (.t 40))], none⟩),
  (20, ⟨some 42, .call 107 [(.t 41)], none⟩),
  (21, ⟨some 43, .bld [(.int .i64 0), (.int .i64 0), (.int .i64 0)] [(0, 1, (.t 22)), (1, 1, (.t 32)), (2, 1, (.t 42))], none⟩),
  (22, ⟨none, .st 3 (.t 6) (.t 43), none⟩),
  (23, ⟨some 7, .mv (.c (.int .i64 0)), none⟩)] [(2, 8), (10, 8), (10, 17), (10, 18), (14, 8), (14, 17)])
 (.ret))),
 [.cell 6 (some 3), .tmp 7], true⟩
/-- ephemeris/ephemerisref20.apart -/
def M87 : MFunc := ⟨.seq (.reg [⟨some 2, .bx (some .i64) 3 (.t 0), none⟩,
  ⟨some 3, .bx (some .i64) 3 (.t 1), none⟩,
  ⟨some 4, .mv (.c (.int .i64 0)), none⟩])
 (.seq (.regd [(0, ⟨some 6, .ld (some 3) (.t 2), none⟩),
  (1, ⟨some 7, .call 110 [(.t 6)], none⟩),
  (2, ⟨some 8, .ld (some 3) (.t 3), none⟩),
  (3, ⟨some 9, .call 110 [(.t 8)], none⟩),
  (4, ⟨some 10, .bin .sub [] (.t 7) (.t 9), none⟩),
  (5, ⟨some 5, .mv (.t 10), none⟩)] [(2, 1)])
 (.seq (.seq (.reg [⟨some 11, .mv (.t 5), none⟩,
  ⟨some 12, .bin .lss [] (.t 11) (.c (.int .i64 0)), none⟩])
 (.cond (.t 12)
 (.seq (.reg [⟨some 13, .mv (.t 5), none⟩,
  ⟨some 14, .un .neg (.t 13), none⟩,
  ⟨some 4, .mv (.t 14), none⟩])
 (.ret))
 (.skip)))
 (.seq (.reg [⟨some 15, .mv (.t 5), none⟩,
  ⟨some 4, .mv (.t 15), none⟩])
 (.ret)))),
 [.tmp 4], true⟩
/-- ephemeris/fix.Clamp -/
def M88 : MFunc := ⟨.seq (.reg [⟨some 6, .mv (.c (.int .i64 0)), none⟩])
 (.seq (.block 0 [0]
 (.seq (.reg [⟨some 8, .mv (.t 0), none⟩,
  ⟨some 9, .mv (.t 1), none⟩,
  ⟨some 10, .bin .lss [] (.t 8) (.t 9), none⟩,
  ⟨some 7, .mv (.t 10), none⟩])
 (.cond (.t 7)
 (.seq (.reg [⟨some 11, .mv (.t 1), none⟩,
  ⟨some 6, .mv (.t 11), none⟩])
 (.ret))
 (.seq (.reg [⟨some 13, .mv (.t 0), none⟩,
  ⟨some 14, .mv (.t 2), none⟩,
  ⟨some 15, .bin .gtr [] (.t 13) (.t 14), none⟩,
  ⟨some 12, .mv (.t 15), none⟩])
 (.cond (.t 12)
 (.seq (.reg [⟨some 16, .mv (.t 2), none⟩,
  ⟨some 6, .mv (.t 16), none⟩])
 (.ret))
 (.skip))))))
 (.seq (.reg [⟨some 17, .mv (.t 0), none⟩,
  ⟨some 6, .mv (.t 17), none⟩])
 (.ret))),
 [.tmp 6], true⟩
/-- math/bits.LeadingZeros64 -/
def M90 : MFunc := ⟨.seq (.reg [⟨some 2, .mv (.c (.int .i64 0)), none⟩])
 (.seq (.reg [⟨some 3, .mv (.t 0), none⟩,
  ⟨some 4, .call 111 [(.t 3)], none⟩,
  ⟨some 5, .bin .sub [] (.c (.int .i64 64)) (.t 4), none⟩,
  ⟨some 2, .mv (.t 5), none⟩])
 (.ret)),
 [.tmp 2], true⟩
/-- slices.IndexFunc[[]ephemeris/sky.Piece,ephemeris/sky.Piece] -/
def M91 : MFunc := ⟨.seq (.reg [⟨some 4, .mv (.c (.int .i64 0)), none⟩])
 (.seq (.seq (.reg [⟨some 6, .mv (.t 0), none⟩,
  ⟨some 7, .len none (.t 6), none⟩,
  ⟨some 8, .mv (.c (.int .i64 0)), none⟩])
 (.block 0 []
 (.loop [0, 1, 7, 8]
 (.seq (.reg [⟨some 9, .bin .lss [] (.t 8) (.t 7), none⟩])
 (.seq (.cond (.t 9)
 (.skip)
 (.exit 0))
 (.seq (.block 1 [0, 1, 7, 8]
 (.seq (.reg [⟨some 10, .mv (.t 8), none⟩,
  ⟨some 5, .mv (.t 10), none⟩])
 (.seq (.reg [⟨some 11, .mv (.t 1), none⟩,
  ⟨some 12, .mv (.t 0), none⟩,
  ⟨some 13, .mv (.t 5), none⟩,
  ⟨some 14, .ia none 2 (.t 12) (.t 13), none⟩,
  ⟨some 15, .ld (some 2) (.t 14), none⟩,
  ⟨some 16, .calld (.t 11) [(.t 15)], none⟩])
 (.cond (.t 16)
 (.seq (.reg [⟨some 17, .mv (.t 5), none⟩,
  ⟨some 4, .mv (.t 17), none⟩])
 (.ret))
 (.skip)))))
 (.reg [⟨some 18, .bin .add [] (.t 8) (.c (.int .i64 1)), none⟩,
  ⟨some 8, .mv (.t 18), none⟩])))))))
 (.seq (.reg [⟨some 4, .mv (.c (.int .i64 (-1))), none⟩])
 (.ret))),
 [.tmp 4], true⟩
/-- ephemeris/ephemerisref01.at -/
def M92 : MFunc := ⟨.seq (.reg [⟨some 4, .mv (.c (.int .u32 0)), none⟩])
 (.seq (.seq (.reg [⟨some 5, .mv (.t 1), none⟩,
  ⟨some 6, .mv (.t 0), none⟩,
  ⟨some 7, .len none (.t 6), none⟩,
  ⟨some 8, .bin .lss [] (.t 5) (.t 7), none⟩])
 (.cond (.t 8)
 (.seq (.reg [⟨some 9, .mv (.t 0), none⟩,
  ⟨some 10, .mv (.t 1), none⟩,
  ⟨some 11, .ia none 1 (.t 9) (.t 10), none⟩,
  ⟨some 12, .ld none (.t 11), none⟩,
  ⟨some 4, .mv (.t 12), none⟩])
 (.ret))
 (.skip)))
 (.seq (.reg [⟨some 4, .mv (.c (.int .u32 0)), none⟩])
 (.ret))),
 [.tmp 4], true⟩
/-- ephemeris/ephemerisref01.plus -/
def M93 : MFunc := ⟨.seq (.reg [⟨some 4, .mv (.c .nils), none⟩])
 (.seq (.reg [⟨some 5, .mv (.c .nils), none⟩])
 (.seq (.reg [⟨some 6, .mv (.c (.int .u32 0)), none⟩])
 (.seq (.seq (.reg [⟨some 7, .mv (.c (.int .i64 0)), none⟩])
 (.block 0 [5]
 (.loop [0, 1, 5, 6, 7]
 (.seq (.seq (.reg [⟨some 9, .mv (.t 7), none⟩,
  ⟨some 10, .mv (.t 0), none⟩,
  ⟨some 11, .len none (.t 10), none⟩,
  ⟨some 12, .bin .lss [] (.t 9) (.t 11), none⟩,
  ⟨some 13, .mv (.t 12), none⟩,
  ⟨some 14, .mv (.t 7), some (13, false)⟩,
  ⟨some 15, .mv (.t 1), some (13, false)⟩,
  ⟨some 16, .len none (.t 15), some (13, false)⟩,
  ⟨some 17, .bin .lss [] (.t 14) (.t 16), some (13, false)⟩,
  ⟨some 18, .pick (.t 13) (.c (.bool true)) (.t 17), none⟩,
  ⟨some 19, .mv (.t 18), none⟩,
  ⟨some 20, .mv (.t 6), some (19, false)⟩,
  ⟨some 21, .bin .gtr [] (.t 20) (.c (.int .u32 0)), some (19, false)⟩,
  ⟨some 22, .pick (.t 19) (.c (.bool true)) (.t 21), none⟩])
 (.cond (.t 22)
 (.skip)
 (.exit 0)))
 (.seq (.block 1 [0, 1, 5, 6, 7]
 (.seq (.reg [⟨some 25, .mv (.t 0), none⟩,
  ⟨some 26, .mv (.t 7), none⟩,
  ⟨some 27, .call 92 [(.t 25), (.t 26)], none⟩,
  ⟨some 28, .mv (.t 1), none⟩,
  ⟨some 29, .mv (.t 7), none⟩,
  ⟨some 30, .call 92 [(.t 28), (.t 29)], none⟩,
  ⟨some 31, .bin .add [] (.t 27) (.t 30), none⟩,
  ⟨some 32, .mv (.t 6), none⟩,
  ⟨some 33, .bin .add [] (.t 31) (.t 32), none⟩,
  ⟨some 8, .mv (.t 33), none⟩])
 (.seq (.reg [⟨some 34, .mv (.t 5), none⟩,
  ⟨some 35, .mv (.t 8), none⟩,
  ⟨some 36, .bin .rem [] (.t 35) (.c (.int .u32 65536)), none⟩,
  ⟨some 37, .bsl (.ints .u32 [0]) 1 1 [(0, 1, (.t 36))], none⟩,
  ⟨some 38, .app (.ints .u32 [0]) 4 (.t 34) (.t 37), none⟩,
  ⟨some 5, .mv (.t 38), none⟩])
 (.reg [⟨some 39, .mv (.t 8), none⟩,
  ⟨some 40, .bin .quo [] (.t 39) (.c (.int .u32 65536)), none⟩,
  ⟨some 6, .mv (.t 40), none⟩]))))
 (.reg [⟨some 23, .mv (.t 7), none⟩,
  ⟨some 24, .bin .add [] (.t 23) (.c (.int .i64 1)), none⟩,
  ⟨some 7, .mv (.t 24), none⟩]))))))
 (.seq (.reg [⟨some 41, .mv (.t 5), none⟩,
  ⟨some 4, .mv (.t 41), none⟩])
 (.ret))))),
 [.tmp 4], true⟩
/-- ephemeris/ephemerisref01.trim -/
def M94 : MFunc := ⟨.seq (.reg [⟨some 1, .bx none 2 (.t 0), none⟩,
  ⟨some 2, .al (.vals [(.bool false), .nils]), none⟩])
 (.seq (.block 0 [1, 2]
 (.loop [1, 2]
 (.seq (.seq (.reg [⟨some 3, .fa 1 (.t 1), none⟩,
  ⟨some 4, .ld none (.t 3), none⟩,
  ⟨some 5, .len none (.t 4), none⟩,
  ⟨some 6, .bin .gtr [] (.t 5) (.c (.int .i64 0)), none⟩,
  ⟨some 7, .mv (.t 6), none⟩,
  ⟨some 8, .fa 1 (.t 1), some (7, true)⟩,
  ⟨some 9, .ld none (.t 8), some (7, true)⟩,
  ⟨some 10, .fa 1 (.t 1), some (7, true)⟩,
  ⟨some 11, .ld none (.t 10), some (7, true)⟩,
  ⟨some 12, .len none (.t 11), some (7, true)⟩,
  ⟨some 13, .bin .sub [] (.t 12) (.c (.int .i64 1)), some (7, true)⟩,
  ⟨some 14, .ia none 1 (.t 9) (.t 13), some (7, true)⟩,
  ⟨some 15, .ld none (.t 14), some (7, true)⟩,
  ⟨some 16, .bin .eql [] (.t 15) (.c (.int .u32 0)), some (7, true)⟩,
  ⟨some 17, .pick (.t 7) (.t 16) (.c (.bool false)), none⟩])
 (.cond (.t 17)
 (.skip)
 (.exit 0)))
 (.block 1 [1, 2]
 (.reg [⟨some 18, .fa 1 (.t 1), none⟩,
  ⟨some 19, .ld none (.t 18), none⟩,
  ⟨some 20, .fa 1 (.t 1), none⟩,
  ⟨some 21, .ld none (.t 20), none⟩,
  ⟨some 22, .len none (.t 21), none⟩,
  ⟨some 23, .bin .sub [] (.t 22) (.c (.int .i64 1)), none⟩,
  ⟨some 24, .slc none 1 (.t 19) none (some (.t 23)) none, none⟩,
  ⟨some 25, .fa 1 (.t 1), none⟩,
  ⟨none, .st 1 (.t 25) (.t 24), none⟩])))))
 (.seq (.seq (.reg [⟨some 26, .fa 1 (.t 1), none⟩,
  ⟨some 27, .ld none (.t 26), none⟩,
  ⟨some 28, .len none (.t 27), none⟩,
  ⟨some 29, .bin .eql [] (.t 28) (.c (.int .i64 0)), none⟩])
 (.cond (.t 29)
 (.reg [⟨some 30, .fa 0 (.t 1), none⟩,
  ⟨none, .st 1 (.t 30) (.c (.bool false)), none⟩])
 (.skip)))
 (.seq (.reg [⟨some 31, .ld (some 2) (.t 1), none⟩,
  ⟨none, .st 2 (.t 2) (.t 31), none⟩])
 (.ret)))),
 [.cell 2 (some 2)], true⟩
/-- ephemeris/ephemerisref01.Less -/
def M95 : MFunc := ⟨.seq (.reg [⟨some 4, .mv (.c (.bool false)), none⟩])
 (.seq (.seq (.reg [⟨some 6, .mv (.t 0), none⟩,
  ⟨some 7, .len none (.t 6), none⟩,
  ⟨some 8, .mv (.t 1), none⟩,
  ⟨some 9, .len none (.t 8), none⟩,
  ⟨some 10, .bin .neq [] (.t 7) (.t 9), none⟩])
 (.cond (.t 10)
 (.seq (.reg [⟨some 11, .mv (.t 0), none⟩,
  ⟨some 12, .len none (.t 11), none⟩,
  ⟨some 13, .mv (.t 1), none⟩,
  ⟨some 14, .len none (.t 13), none⟩,
  ⟨some 15, .bin .lss [] (.t 12) (.t 14), none⟩,
  ⟨some 4, .mv (.t 15), none⟩])
 (.ret))
 (.skip)))
 (.seq (.seq (.reg [⟨some 16, .mv (.t 0), none⟩,
  ⟨some 17, .len none (.t 16), none⟩,
  ⟨some 18, .bin .sub [] (.t 17) (.c (.int .i64 1)), none⟩,
  ⟨some 5, .mv (.t 18), none⟩])
 (.block 0 []
 (.loop [0, 1, 5]
 (.seq (.seq (.reg [⟨some 19, .mv (.t 5), none⟩,
  ⟨some 20, .bin .geq [] (.t 19) (.c (.int .i64 0)), none⟩])
 (.cond (.t 20)
 (.skip)
 (.exit 0)))
 (.seq (.block 1 [0, 1, 5]
 (.seq (.regd [(0, ⟨some 23, .mv (.t 0), none⟩),
  (1, ⟨some 24, .mv (.t 5), none⟩),
  (2, ⟨some 25, .ia none 1 (.t 23) (.t 24), none⟩),
  (3, ⟨some 26, .ld none (.t 25), none⟩),
  (4, ⟨some 27, .mv (.t 1), none⟩),
  (5, ⟨some 28, .mv (.t 5), none⟩),
  (6, ⟨some 29, .ia none 1 (.t 27) (.t 28), none⟩),
  (7, ⟨some 30, .ld none (.t 29), none⟩),
  (8, ⟨some 31, .bin .neq [] (.t 26) (.t 30), none⟩)] [])
 (.cond (.t 31)
 (.seq (.regd [(0, ⟨some 32, .mv (.t 0), none⟩),
  (1, ⟨some 33, .mv (.t 5), none⟩),
  (2, ⟨some 34, .ia none 1 (.t 32) (.t 33), none⟩),
  (3, ⟨some 35, .ld none (.t 34), none⟩),
  (4, ⟨some 36, .mv (.t 1), none⟩),
  (5, ⟨some 37, .mv (.t 5), none⟩),
  (6, ⟨some 38, .ia none 1 (.t 36) (.t 37), none⟩),
  (7, ⟨some 39, .ld none (.t 38), none⟩),
  (8, ⟨some 40, .bin .lss [] (.t 35) (.t 39), none⟩),
  (9, ⟨some 4, .mv (.t 40), none⟩)] [])
 (.ret))
 (.skip))))
 (.reg [⟨some 21, .mv (.t 5), none⟩,
  ⟨some 22, .bin .sub [] (.t 21) (.c (.int .i64 1)), none⟩,
  ⟨some 5, .mv (.t 22), none⟩]))))))
 (.seq (.reg [⟨some 4, .mv (.c (.bool false)), none⟩])
 (.ret)))),
 [.tmp 4], true⟩
/-- ephemeris/ephemerisref01.less -/
def M96 : MFunc := ⟨.seq (.reg [⟨some 4, .mv (.c .nils), none⟩])
 (.seq (.reg [⟨some 5, .mv (.c .nils), none⟩])
 (.seq (.reg [⟨some 6, .mv (.c (.int .u32 0)), none⟩])
 (.seq (.seq (.reg [⟨some 7, .mv (.c (.int .i64 0)), none⟩])
 (.block 0 [5]
 (.loop [0, 1, 5, 6, 7]
 (.seq (.seq (.reg [⟨some 9, .mv (.t 7), none⟩,
  ⟨some 10, .mv (.t 0), none⟩,
  ⟨some 11, .len none (.t 10), none⟩,
  ⟨some 12, .bin .lss [] (.t 9) (.t 11), none⟩])
 (.cond (.t 12)
 (.skip)
 (.exit 0)))
 (.seq (.block 1 [0, 1, 5, 6, 7]
 (.seq (.regd [(0, ⟨some 15, .mv (.t 0), none⟩),
  (1, ⟨some 16, .mv (.t 7), none⟩),
  (2, ⟨some 17, .ia none 1 (.t 15) (.t 16), none⟩),
  (3, ⟨some 18, .ld none (.t 17), none⟩),
  (4, ⟨some 19, .bin .add [] (.c (.int .u32 65536)) (.t 18), none⟩),
  (5, ⟨some 20, .mv (.t 1), none⟩),
  (6, ⟨some 21, .mv (.t 7), none⟩),
  (7, ⟨some 22, .call 92 [(.t 20), (.t 21)], none⟩),
  (8, ⟨some 23, .bin .sub [] (.t 19) (.t 22), none⟩),
  (9, ⟨some 24, .mv (.t 6), none⟩),
  (10, ⟨some 25, .bin .sub [] (.t 23) (.t 24), none⟩),
  (11, ⟨some 8, .mv (.t 25), none⟩)] [(3, 7)])
 (.seq (.reg [⟨some 26, .mv (.t 5), none⟩,
  ⟨some 27, .mv (.t 8), none⟩,
  ⟨some 28, .bin .rem [] (.t 27) (.c (.int .u32 65536)), none⟩,
  ⟨some 29, .bsl (.ints .u32 [0]) 1 1 [(0, 1, (.t 28))], none⟩,
  ⟨some 30, .app (.ints .u32 [0]) 4 (.t 26) (.t 29), none⟩,
  ⟨some 5, .mv (.t 30), none⟩])
 (.reg [⟨some 31, .mv (.t 8), none⟩,
  ⟨some 32, .bin .quo [] (.t 31) (.c (.int .u32 65536)), none⟩,
  ⟨some 33, .bin .sub [] (.c (.int .u32 1)) (.t 32), none⟩,
  ⟨some 6, .mv (.t 33), none⟩]))))
 (.reg [⟨some 13, .mv (.t 7), none⟩,
  ⟨some 14, .bin .add [] (.t 13) (.c (.int .i64 1)), none⟩,
  ⟨some 7, .mv (.t 14), none⟩]))))))
 (.seq (.reg [⟨some 34, .mv (.t 5), none⟩,
  ⟨some 4, .mv (.t 34), none⟩])
 (.ret))))),
 [.tmp 4], true⟩
/-- ephemeris/ephemerisref01.told -/
def M97 : MFunc := ⟨.seq (.reg [⟨some 1, .bx none 2 (.t 0), none⟩,
  ⟨some 2, .mv (.c (.int .i64 0)), none⟩,
  ⟨some 3, .mv (.c (.int .i64 0)), none⟩])
 (.seq (.reg [⟨some 7, .ld (some 2) (.t 1), none⟩,
  ⟨some 8, .call 67 [(.t 7)], none⟩,
  ⟨some 6, .mv (.t 8), none⟩,
  ⟨some 9, .ex 0 (.t 6), none⟩,
  ⟨some 10, .ex 1 (.t 6), none⟩,
  ⟨some 4, .mv (.t 9), none⟩,
  ⟨some 5, .mv (.t 10), none⟩])
 (.seq (.seq (.reg [⟨some 11, .mv (.t 5), none⟩,
  ⟨some 12, .un .not (.t 11), none⟩])
 (.cond (.t 12)
 (.seq (.reg [⟨some 2, .mv (.c (.int .i64 0)), none⟩,
  ⟨some 3, .mv (.c (.int .i64 20)), none⟩])
 (.ret))
 (.skip)))
 (.seq (.reg [⟨some 13, .mv (.t 4), none⟩,
  ⟨some 2, .mv (.t 13), none⟩,
  ⟨some 3, .mv (.c (.int .i64 0)), none⟩])
 (.ret)))),
 [.tmp 2, .tmp 3], true⟩
/-- ephemeris/fix.quotient -/
def M98 : MFunc := ⟨.seq (.reg [⟨some 8, .mv (.c (.int .i64 0)), none⟩,
  ⟨some 9, .mv (.c (.int .i64 0)), none⟩])
 (.seq (.seq (.reg [⟨some 16, .mv (.t 2), none⟩,
  ⟨some 17, .bin .leq [] (.t 16) (.c (.int .i64 0)), none⟩])
 (.cond (.t 17)
 (.seq (.reg [⟨some 8, .mv (.c (.int .i64 0)), none⟩,
  ⟨some 9, .mv (.c (.int .i64 1)), none⟩])
 (.ret))
 (.skip)))
 (.seq (.reg [⟨some 10, .al (.ints .u64 [0, 0]), none⟩])
 (.seq (.reg [⟨some 19, .mv (.t 0), none⟩,
  ⟨some 20, .call 112 [(.t 19)], none⟩,
  ⟨some 21, .mv (.t 1), none⟩,
  ⟨some 22, .call 112 [(.t 21)], none⟩,
  ⟨some 23, .call 54 [(.t 20), (.t 22)], none⟩,
  ⟨some 18, .mv (.t 23), none⟩,
  ⟨some 24, .ex 0 (.t 18), none⟩,
  ⟨some 25, .ex 1 (.t 18), none⟩,
  ⟨some 26, .ia (some 2) 1 (.t 10) (.c (.int .i64 0)), none⟩,
  ⟨none, .st 1 (.t 26) (.t 24), none⟩,
  ⟨some 27, .ia (some 2) 1 (.t 10) (.c (.int .i64 1)), none⟩,
  ⟨none, .st 1 (.t 27) (.t 25), none⟩])
 (.seq (.seq (.reg [⟨some 28, .ia (some 2) 1 (.t 10) (.c (.int .i64 0)), none⟩,
  ⟨some 29, .ld none (.t 28), none⟩,
  ⟨some 30, .mv (.t 2), none⟩,
  ⟨some 31, .ci .u64 (.t 30), none⟩,
  ⟨some 32, .bin .geq [] (.t 29) (.t 31), none⟩])
 (.cond (.t 32)
 (.seq (.reg [⟨some 8, .mv (.c (.int .i64 0)), none⟩,
  ⟨some 9, .mv (.c (.int .i64 20)), none⟩])
 (.ret))
 (.skip)))
 (.seq (.reg [⟨some 33, .mv (.t 0), none⟩,
  ⟨some 34, .bin .lss [] (.t 33) (.c (.int .i64 0)), none⟩,
  ⟨some 35, .mv (.t 1), none⟩,
  ⟨some 36, .bin .lss [] (.t 35) (.c (.int .i64 0)), none⟩,
  ⟨some 37, .bin .neq [1] (.t 34) (.t 36), none⟩,
  ⟨some 11, .mv (.t 37), none⟩])
 (.seq (.reg [⟨some 39, .ia (some 2) 1 (.t 10) (.c (.int .i64 0)), none⟩,
  ⟨some 40, .ld none (.t 39), none⟩,
  ⟨some 41, .ia (some 2) 1 (.t 10) (.c (.int .i64 1)), none⟩,
  ⟨some 42, .ld none (.t 41), none⟩,
  ⟨some 43, .mv (.t 2), none⟩,
  ⟨some 44, .ci .u64 (.t 43), none⟩,
  ⟨some 45, .call 53 [(.t 40), (.t 42), (.t 44)], none⟩,
  ⟨some 38, .mv (.t 45), none⟩,
  ⟨some 46, .ex 0 (.t 38), none⟩,
  ⟨some 47, .ex 1 (.t 38), none⟩,
  ⟨some 12, .mv (.t 46), none⟩,
  ⟨some 13, .mv (.t 47), none⟩])
 (.seq (.seq (.reg [⟨some 48, .mv (.t 13), none⟩,
  ⟨some 49, .bin .gtr [] (.t 48) (.c (.int .u64 0)), none⟩,
  ⟨some 50, .mv (.t 49), none⟩,
  ⟨some 51, .mv (.t 3), some (50, true)⟩,
  ⟨some 52, .mv (.t 11), some (50, true)⟩,
  ⟨some 53, .calld (.t 51) [(.t 52)], some (50, true)⟩,
  ⟨some 54, .pick (.t 50) (.t 53) (.c (.bool false)), none⟩])
 (.cond (.t 54)
 (.seq (.reg [⟨some 55, .mv (.t 12), none⟩,
  ⟨some 56, .bin .add [] (.t 55) (.c (.int .u64 1)), none⟩,
  ⟨some 12, .mv (.t 56), none⟩])
 (.seq (.reg [⟨some 57, .mv (.t 12), none⟩,
  ⟨some 58, .bin .eql [] (.t 57) (.c (.int .u64 0)), none⟩])
 (.cond (.t 58)
 (.seq (.reg [⟨some 8, .mv (.c (.int .i64 0)), none⟩,
  ⟨some 9, .mv (.c (.int .i64 20)), none⟩])
 (.ret))
 (.skip))))
 (.skip)))
 (.seq (.reg [⟨some 60, .mv (.t 12), none⟩,
  ⟨some 61, .mv (.t 11), none⟩,
  ⟨some 62, .call 113 [(.t 60), (.t 61)], none⟩,
  ⟨some 59, .mv (.t 62), none⟩,
  ⟨some 63, .ex 0 (.t 59), none⟩,
  ⟨some 64, .ex 1 (.t 59), none⟩,
  ⟨some 14, .mv (.t 63), none⟩,
  ⟨some 15, .mv (.t 64), none⟩])
 (.seq (.seq (.reg [⟨some 65, .mv (.t 15), none⟩,
  ⟨some 66, .un .not (.t 65), none⟩])
 (.cond (.t 66)
 (.seq (.reg [⟨some 8, .mv (.c (.int .i64 0)), none⟩,
  ⟨some 9, .mv (.c (.int .i64 20)), none⟩])
 (.ret))
 (.skip)))
 (.seq (.reg [⟨some 67, .mv (.t 14), none⟩,
  ⟨some 8, .mv (.t 67), none⟩,
  ⟨some 9, .mv (.c (.int .i64 0)), none⟩])
 (.ret))))))))))),
 [.tmp 8, .tmp 9], true⟩
/-- ephemeris/fix.MulDivUp_1 -/
def M99 : MFunc := ⟨.seq (.reg [⟨some 2, .mv (.c (.bool false)), none⟩])
 (.seq (.reg [⟨some 3, .mv (.t 0), none⟩,
  ⟨some 4, .un .not (.t 3), none⟩,
  ⟨some 2, .mv (.t 4), none⟩])
 (.ret)),
 [.tmp 2], true⟩
/-- ephemeris/fix.MulDiv_1 -/
def M100 : MFunc := ⟨.seq (.reg [⟨some 2, .mv (.c (.bool false)), none⟩])
 (.seq (.reg [⟨some 3, .mv (.t 0), none⟩,
  ⟨some 2, .mv (.t 3), none⟩])
 (.ret)),
 [.tmp 2], true⟩
/-- ephemeris/span.times -/
def M101 : MFunc := ⟨.seq (.reg [⟨some 2, .mv (.c (.bool false)), none⟩])
 (.seq (.seq (.reg [⟨some 5, .mv (.t 0), none⟩,
  ⟨some 6, .len none (.t 5), none⟩,
  ⟨some 7, .mv (.c (.int .i64 0)), none⟩])
 (.block 0 []
 (.loop [5, 6, 7]
 (.seq (.reg [⟨some 8, .bin .lss [] (.t 7) (.t 6), none⟩])
 (.seq (.cond (.t 8)
 (.skip)
 (.exit 0))
 (.seq (.block 1 [5, 6, 7]
 (.seq (.reg [⟨some 9, .ia none 1 (.t 5) (.t 7), none⟩,
  ⟨some 10, .ld none (.t 9), none⟩,
  ⟨some 4, .mv (.t 10), none⟩])
 (.seq (.reg [⟨some 11, .mv (.t 4), none⟩,
  ⟨some 12, .mv (.t 4), none⟩,
  ⟨some 13, .call 73 [(.t 12)], none⟩,
  ⟨some 14, .bin .neq [] (.t 11) (.t 13), none⟩])
 (.cond (.t 14)
 (.seq (.reg [⟨some 2, .mv (.c (.bool false)), none⟩])
 (.ret))
 (.skip)))))
 (.reg [⟨some 15, .bin .add [] (.t 7) (.c (.int .i64 1)), none⟩,
  ⟨some 7, .mv (.t 15), none⟩])))))))
 (.seq (.reg [⟨some 2, .mv (.c (.bool true)), none⟩])
 (.ret))),
 [.tmp 2], true⟩
/-- ephemeris/fix.AddSat -/
def M102 : MFunc := ⟨.seq (.reg [⟨some 4, .mv (.c (.int .i64 0)), none⟩])
 (.seq (.reg [⟨some 8, .mv (.t 0), none⟩,
  ⟨some 9, .mv (.t 1), none⟩,
  ⟨some 10, .call 114 [(.t 8), (.t 9)], none⟩,
  ⟨some 7, .mv (.t 10), none⟩,
  ⟨some 11, .ex 0 (.t 7), none⟩,
  ⟨some 12, .ex 1 (.t 7), none⟩,
  ⟨some 5, .mv (.t 11), none⟩,
  ⟨some 6, .mv (.t 12), none⟩])
 (.seq (.reg [⟨some 13, .mv (.t 5), none⟩,
  ⟨some 14, .mv (.t 6), none⟩,
  ⟨some 15, .mv (.t 0), none⟩,
  ⟨some 16, .bin .lss [] (.t 15) (.c (.int .i64 0)), none⟩,
  ⟨some 17, .call 115 [(.t 13), (.t 14), (.t 16)], none⟩,
  ⟨some 4, .mv (.t 17), none⟩])
 (.ret))),
 [.tmp 4], true⟩
/-- ephemeris/filter.best_1 -/
def M103 : MFunc := ⟨.seq (.reg [⟨some 4, .mv (.c (.bool false)), none⟩])
 (.seq (.regd [(0, ⟨some 5, .ld none (.t 1), none⟩),
  (1, ⟨some 6, .mv (.t 0), none⟩),
  (2, ⟨some 7, .ia none 3 (.t 5) (.t 6), none⟩),
  (3, ⟨some 8, .ld (some 3) (.t 7), none⟩),
  (4, ⟨some 9, .call 38 [(.t 8)], none⟩),
  (5, ⟨some 10, .ld none (.t 1), none⟩),
  (6, ⟨some 11, .ld none (.t 2), none⟩),
  (7, ⟨some 12, .ia none 3 (.t 10) (.t 11), none⟩),
  (8, ⟨some 13, .ld (some 3) (.t 12), none⟩),
  (9, ⟨some 14, .call 38 [(.t 13)], none⟩),
  (10, ⟨some 15, .bin .lss [] (.t 9) (.t 14), none⟩),
  (11, ⟨some 4, .mv (.t 15), none⟩)] [(5, 4), (6, 4), (8, 4)])
 (.ret)),
 [.tmp 4], true⟩
/-- ephemeris/span.ends_1 -/
def M104 : MFunc := ⟨.seq (.reg [⟨some 3, .mv (.c (.int .i64 0)), none⟩])
 (.seq (.regd [(0, ⟨some 4, .mv (.t 0), none⟩),
  (1, ⟨some 5, .ia (some 2) 2 (.t 1) (.t 4), none⟩),
  (2, ⟨some 6, .ia (some 2) 1 (.t 5) (.c (.int .i64 0)), none⟩),
  (3, ⟨some 7, .ld none (.t 6), none⟩),
  (4, ⟨some 8, .mv (.t 0), none⟩),
  (5, ⟨some 9, .ia (some 2) 2 (.t 1) (.t 8), none⟩),
  (6, ⟨some 10, .ia (some 2) 1 (.t 9) (.c (.int .i64 1)), none⟩),
  (7, ⟨some 11, .ld none (.t 10), none⟩),
  (8, ⟨some 12, .call 102 [(.t 7), (.t 11)], none⟩),
  (9, ⟨some 13, .call 73 [(.t 12)], none⟩),
  (10, ⟨some 3, .mv (.t 13), none⟩)] [])
 (.ret)),
 [.tmp 3], true⟩
/-- ephemeris/span.Mid -/
def M105 : MFunc := ⟨.seq (.reg [⟨some 1, .bx (some .i64) 3 (.t 0), none⟩,
  ⟨some 2, .mv (.c (.int .i64 0)), none⟩])
 (.seq (.seq (.reg [⟨some 3, .ld (some 3) (.t 1), none⟩,
  ⟨some 4, .call 76 [(.t 3)], none⟩,
  ⟨some 5, .un .not (.t 4), none⟩])
 (.cond (.t 5)
 (.seq (.reg [⟨some 2, .mv (.c (.int .i64 0)), none⟩])
 (.ret))
 (.skip)))
 (.seq (.regd [(0, ⟨some 6, .fa 1 (.t 1), none⟩),
  (1, ⟨some 7, .ld none (.t 6), none⟩),
  (2, ⟨some 8, .ld (some 3) (.t 1), none⟩),
  (3, ⟨some 9, .call 38 [(.t 8)], none⟩),
  (4, ⟨some 10, .bin .quo [] (.t 9) (.c (.int .i64 2)), none⟩),
  (5, ⟨some 11, .bin .add [] (.t 7) (.t 10), none⟩),
  (6, ⟨some 2, .mv (.t 11), none⟩)] [(1, 3)])
 (.ret))),
 [.tmp 2], true⟩
/-- ephemeris/ephemerisref19.is -/
def M106 : MFunc := ⟨.seq (.reg [⟨some 2, .mv (.c (.bool false)), none⟩])
 (.seq (.seq (.reg [⟨some 3, .mv (.c (.int .i64 0)), none⟩])
 (.block 0 []
 (.loop [0, 3]
 (.seq (.seq (.reg [⟨some 4, .mv (.t 3), none⟩,
  ⟨some 5, .mv (.t 0), none⟩,
  ⟨some 6, .len none (.t 5), none⟩,
  ⟨some 7, .bin .lss [] (.t 4) (.t 6), none⟩])
 (.cond (.t 7)
 (.skip)
 (.exit 0)))
 (.seq (.block 1 [0, 3]
 (.seq (.reg [⟨some 10, .mv (.t 0), none⟩,
  ⟨some 11, .mv (.t 3), none⟩,
  ⟨some 12, .ia none 1 (.t 10) (.t 11), none⟩,
  ⟨some 13, .ld none (.t 12), none⟩,
  ⟨some 14, .bin .lss [] (.t 13) (.c (.int .i64 0)), none⟩,
  ⟨some 15, .mv (.t 14), none⟩,
  ⟨some 16, .mv (.t 0), some (15, false)⟩,
  ⟨some 17, .mv (.t 3), some (15, false)⟩,
  ⟨some 18, .ia none 1 (.t 16) (.t 17), some (15, false)⟩,
  ⟨some 19, .ld none (.t 18), some (15, false)⟩,
  ⟨some 20, .bin .gtr [] (.t 19) (.c (.int .i64 4611686018427387904)), some (15, false)⟩,
  ⟨some 21, .pick (.t 15) (.c (.bool true)) (.t 20), none⟩])
 (.cond (.t 21)
 (.seq (.reg [⟨some 2, .mv (.c (.bool false)), none⟩])
 (.ret))
 (.skip))))
 (.reg [⟨some 8, .mv (.t 3), none⟩,
  ⟨some 9, .bin .add [] (.t 8) (.c (.int .i64 1)), none⟩,
  ⟨some 3, .mv (.t 9), none⟩]))))))
 (.seq (.reg [⟨some 2, .mv (.c (.bool true)), none⟩])
 (.ret))),
 [.tmp 2], true⟩
/-- ephemeris/ephemerisref19.sum -/
def M107 : MFunc := ⟨.seq (.reg [⟨some 2, .mv (.c (.int .i64 0)), none⟩])
 (.seq (.reg [⟨some 7, .bld [(.bool false), .nils] [], none⟩,
  ⟨some 3, .al (.vals [(.bool false), .nils]), none⟩,
  ⟨none, .st 2 (.t 3) (.t 7), none⟩])
 (.seq (.seq (.reg [⟨some 4, .mv (.c (.int .i64 0)), none⟩])
 (.block 0 [3]
 (.loop [0, 3, 4]
 (.seq (.seq (.reg [⟨some 8, .mv (.t 4), none⟩,
  ⟨some 9, .mv (.t 0), none⟩,
  ⟨some 10, .len none (.t 9), none⟩,
  ⟨some 11, .bin .lss [] (.t 8) (.t 10), none⟩])
 (.cond (.t 11)
 (.skip)
 (.exit 0)))
 (.seq (.block 1 [0, 3, 4]
 (.regd [(0, ⟨some 14, .ld (some 2) (.t 3), none⟩),
  (1, ⟨some 15, .mv (.t 0), none⟩),
  (2, ⟨some 16, .mv (.t 4), none⟩),
  (3, ⟨some 17, .ia none 1 (.t 15) (.t 16), none⟩),
  (4, ⟨some 18, .ld none (.t 17), none⟩),
  (5, ⟨some 19, .call 63 [(.t 18)], none⟩),
  (6, ⟨some 20, .call 65 [(.t 14), (.t 19)], none⟩),
  (7, ⟨none, .st 2 (.t 3) (.t 20), none⟩)] [(0, 5)]))
 (.reg [⟨some 12, .mv (.t 4), none⟩,
  ⟨some 13, .bin .add [] (.t 12) (.c (.int .i64 1)), none⟩,
  ⟨some 4, .mv (.t 13), none⟩]))))))
 (.seq (.seq (.reg [⟨some 21, .fa 0 (.t 3), none⟩,
  ⟨some 22, .ld none (.t 21), none⟩])
 (.cond (.t 22)
 (.seq (.reg [⟨some 2, .mv (.c (.int .i64 0)), none⟩])
 (.ret))
 (.skip)))
 (.seq (.reg [⟨some 24, .ld (some 2) (.t 3), none⟩,
  ⟨some 25, .call 67 [(.t 24)], none⟩,
  ⟨some 23, .mv (.t 25), none⟩,
  ⟨some 26, .ex 0 (.t 23), none⟩,
  ⟨some 27, .ex 1 (.t 23), none⟩,
  ⟨some 5, .mv (.t 26), none⟩,
  ⟨some 6, .mv (.t 27), none⟩])
 (.seq (.seq (.reg [⟨some 28, .mv (.t 6), none⟩,
  ⟨some 29, .un .not (.t 28), none⟩])
 (.cond (.t 29)
 (.seq (.reg [⟨some 2, .mv (.c (.int .i64 4611686018427387904)), none⟩])
 (.ret))
 (.skip)))
 (.seq (.reg [⟨some 30, .mv (.t 5), none⟩,
  ⟨some 31, .call 116 [(.t 30)], none⟩,
  ⟨some 2, .mv (.t 31), none⟩])
 (.ret))))))),
 [.tmp 2], true⟩
/-- (*ephemeris/ephemerisref19.Ruler).Down -/
def M108 : MFunc := ⟨.seq (.reg [⟨some 4, .mv (.c (.int .i64 0)), none⟩])
 (.seq (.regd [(0, ⟨some 5, .mv (.t 1), none⟩),
  (1, ⟨some 6, .call 116 [(.t 5)], none⟩),
  (2, ⟨some 7, .mv (.t 0), none⟩),
  (3, ⟨some 8, .nc (.t 7), none⟩),
  (4, ⟨some 9, .fa 0 (.t 8), none⟩),
  (5, ⟨some 10, .ld none (.t 9), none⟩),
  (6, ⟨some 11, .bin .sub [] (.t 6) (.t 10), none⟩),
  (7, ⟨some 12, .bin .sub [] (.t 11) (.c (.int .i64 1)), none⟩),
  (8, ⟨some 13, .mv (.t 0), none⟩),
  (9, ⟨some 14, .nc (.t 13), none⟩),
  (10, ⟨some 15, .fa 1 (.t 14), none⟩),
  (11, ⟨some 16, .ld none (.t 15), none⟩),
  (12, ⟨some 17, .bin .add [] (.c (.int .i64 1000000000)) (.t 16), none⟩),
  (13, ⟨some 18, .call 117 [(.t 12), (.t 17), (.c (.bool false))], none⟩),
  (14, ⟨some 4, .mv (.t 18), none⟩)] [(5, 1), (11, 1)])
 (.ret)),
 [.tmp 4], true⟩
/-- (*ephemeris/ephemerisref19.Ruler).Up -/
def M109 : MFunc := ⟨.seq (.reg [⟨some 4, .mv (.c (.int .i64 0)), none⟩])
 (.seq (.regd [(0, ⟨some 5, .mv (.t 1), none⟩),
  (1, ⟨some 6, .call 116 [(.t 5)], none⟩),
  (2, ⟨some 7, .mv (.t 0), none⟩),
  (3, ⟨some 8, .nc (.t 7), none⟩),
  (4, ⟨some 9, .fa 0 (.t 8), none⟩),
  (5, ⟨some 10, .ld none (.t 9), none⟩),
  (6, ⟨some 11, .bin .add [] (.t 6) (.t 10), none⟩),
  (7, ⟨some 12, .bin .add [] (.t 11) (.c (.int .i64 1)), none⟩),
  (8, ⟨some 13, .mv (.t 0), none⟩),
  (9, ⟨some 14, .nc (.t 13), none⟩),
  (10, ⟨some 15, .fa 1 (.t 14), none⟩),
  (11, ⟨some 16, .ld none (.t 15), none⟩),
  (12, ⟨some 17, .bin .sub [] (.c (.int .i64 1000000000)) (.t 16), none⟩),
  (13, ⟨some 18, .call 117 [(.t 12), (.t 17), (.c (.bool true))], none⟩),
  (14, ⟨some 4, .mv (.t 18), none⟩)] [(5, 1), (11, 1)])
 (.ret)),
 [.tmp 4], true⟩
/-- ephemeris/ephemerisref19.Mid -/
def M110 : MFunc := ⟨.seq (.reg [⟨some 1, .bx (some .i64) 3 (.t 0), none⟩,
  ⟨some 2, .mv (.c (.int .i64 0)), none⟩])
 (.seq (.seq (.reg [⟨some 3, .ld (some 3) (.t 1), none⟩,
  ⟨some 4, .call 84 [(.t 3)], none⟩,
  ⟨some 5, .un .not (.t 4), none⟩])
 (.cond (.t 5)
 (.seq (.reg [⟨some 2, .mv (.c (.int .i64 0)), none⟩])
 (.ret))
 (.skip)))
 (.seq (.reg [⟨some 6, .fa 1 (.t 1), none⟩,
  ⟨some 7, .ld none (.t 6), none⟩,
  ⟨some 8, .fa 2 (.t 1), none⟩,
  ⟨some 9, .ld none (.t 8), none⟩,
  ⟨some 10, .fa 1 (.t 1), none⟩,
  ⟨some 11, .ld none (.t 10), none⟩,
  ⟨some 12, .bin .sub [] (.t 9) (.t 11), none⟩,
  ⟨some 13, .bin .quo [] (.t 12) (.c (.int .i64 2)), none⟩,
  ⟨some 14, .bin .add [] (.t 7) (.t 13), none⟩,
  ⟨some 2, .mv (.t 14), none⟩])
 (.ret))),
 [.tmp 2], true⟩
/-- math/bits.Len64 -/
def M111 : MFunc := ⟨.seq (.reg [⟨some 2, .mv (.c (.int .i64 0)), none⟩])
 (.seq (.seq (.reg [⟨some 3, .mv (.t 0), none⟩,
  ⟨some 4, .bin .geq [] (.t 3) (.c (.int .u64 4294967296)), none⟩])
 (.cond (.t 4)
 (.seq (.reg [⟨some 5, .mv (.t 0), none⟩,
  ⟨some 6, .bin .shr [] (.t 5) (.c (.int .u64 32)), none⟩,
  ⟨some 0, .mv (.t 6), none⟩])
 (.reg [⟨some 2, .mv (.c (.int .i64 32)), none⟩]))
 (.skip)))
 (.seq (.seq (.reg [⟨some 7, .mv (.t 0), none⟩,
  ⟨some 8, .bin .geq [] (.t 7) (.c (.int .u64 65536)), none⟩])
 (.cond (.t 8)
 (.seq (.reg [⟨some 9, .mv (.t 0), none⟩,
  ⟨some 10, .bin .shr [] (.t 9) (.c (.int .u64 16)), none⟩,
  ⟨some 0, .mv (.t 10), none⟩])
 (.reg [⟨some 11, .mv (.t 2), none⟩,
  ⟨some 12, .bin .add [] (.t 11) (.c (.int .i64 16)), none⟩,
  ⟨some 2, .mv (.t 12), none⟩]))
 (.skip)))
 (.seq (.seq (.reg [⟨some 13, .mv (.t 0), none⟩,
  ⟨some 14, .bin .geq [] (.t 13) (.c (.int .u64 256)), none⟩])
 (.cond (.t 14)
 (.seq (.reg [⟨some 15, .mv (.t 0), none⟩,
  ⟨some 16, .bin .shr [] (.t 15) (.c (.int .u64 8)), none⟩,
  ⟨some 0, .mv (.t 16), none⟩])
 (.reg [⟨some 17, .mv (.t 2), none⟩,
  ⟨some 18, .bin .add [] (.t 17) (.c (.int .i64 8)), none⟩,
  ⟨some 2, .mv (.t 18), none⟩]))
 (.skip)))
 (.seq (.reg [⟨some 19, .mv (.t 2), none⟩,
  ⟨some 20, .mv (.t 0), none⟩,
  ⟨some 21, .ci .u8 (.t 20), none⟩,
  ⟨some 22, .ixs (.c (.str ⟨#[0, 1, 2, 2, 3, 3, 3, 3, 4, 4, 4, 4, 4, 4, 4, 4, 5, 5, 5, 5, 5, 5, 5, 5, 5, 5, 5, 5, 5, 5, 5, 5, 6, 6, 6, 6, 6, 6, 6, 6, 6, 6, 6, 6, 6, 6, 6, 6, 6, 6, 6, 6, 6, 6, 6, 6, 6, 6, 6, 6, 6, 6, 6, 6, 7, 7, 7, 7, 7, 7, 7, 7, 7, 7, 7, 7, 7, 7, 7, 7, 7, 7, 7, 7, 7, 7, 7, 7, 7, 7, 7, 7, 7, 7, 7, 7, 7, 7, 7, 7, 7, 7, 7, 7, 7, 7, 7, 7, 7, 7, 7, 7, 7, 7, 7, 7, 7, 7, 7, 7, 7, 7, 7, 7, 7, 7, 7, 7, 8, 8, 8, 8, 8, 8, 8, 8, 8, 8, 8, 8, 8, 8, 8, 8, 8, 8, 8, 8, 8, 8, 8, 8, 8, 8, 8, 8, 8, 8, 8, 8, 8, 8, 8, 8, 8, 8, 8, 8, 8, 8, 8, 8, 8, 8, 8, 8, 8, 8, 8, 8, 8, 8, 8, 8, 8, 8, 8, 8, 8, 8, 8, 8, 8, 8, 8, 8, 8, 8, 8, 8, 8, 8, 8, 8, 8, 8, 8, 8, 8, 8, 8, 8, 8, 8, 8, 8, 8, 8, 8, 8, 8, 8, 8, 8, 8, 8, 8, 8, 8, 8, 8, 8, 8, 8, 8, 8, 8, 8, 8, 8, 8, 8, 8, 8, 8, 8, 8, 8, 8, 8, 8, 8, 8, 8, 8, 8]⟩)) (.t 21), none⟩,
  ⟨some 23, .ci .i64 (.t 22), none⟩,
  ⟨some 24, .bin .add [] (.t 19) (.t 23), none⟩,
  ⟨some 2, .mv (.t 24), none⟩])
 (.ret))))),
 [.tmp 2], true⟩
/-- ephemeris/fix.size -/
def M112 : MFunc := ⟨.seq (.reg [⟨some 2, .mv (.c (.int .u64 0)), none⟩])
 (.seq (.seq (.reg [⟨some 3, .mv (.t 0), none⟩,
  ⟨some 4, .bin .lss [] (.t 3) (.c (.int .i64 0)), none⟩])
 (.cond (.t 4)
 (.seq (.reg [⟨some 5, .mv (.t 0), none⟩,
  ⟨some 6, .ci .u64 (.t 5), none⟩,
  ⟨some 7, .un .neg (.t 6), none⟩,
  ⟨some 2, .mv (.t 7), none⟩])
 (.ret))
 (.skip)))
 (.seq (.reg [⟨some 8, .mv (.t 0), none⟩,
  ⟨some 9, .ci .u64 (.t 8), none⟩,
  ⟨some 2, .mv (.t 9), none⟩])
 (.ret))),
 [.tmp 2], true⟩
/-- ephemeris/fix.signed -/
def M113 : MFunc := ⟨.seq (.reg [⟨some 4, .mv (.c (.int .i64 0)), none⟩,
  ⟨some 5, .mv (.c (.bool false)), none⟩])
 (.seq (.seq (.reg [⟨some 6, .mv (.t 1), none⟩])
 (.cond (.t 6)
 (.seq (.reg [⟨some 7, .mv (.t 0), none⟩,
  ⟨some 8, .un .neg (.t 7), none⟩,
  ⟨some 9, .ci .i64 (.t 8), none⟩,
  ⟨some 10, .mv (.t 0), none⟩,
  ⟨some 11, .bin .leq [] (.t 10) (.c (.int .u64 9223372036854775808)), none⟩,
  ⟨some 4, .mv (.t 9), none⟩,
  ⟨some 5, .mv (.t 11), none⟩])
 (.ret))
 (.skip)))
 (.seq (.reg [⟨some 12, .mv (.t 0), none⟩,
  ⟨some 13, .ci .i64 (.t 12), none⟩,
  ⟨some 14, .mv (.t 0), none⟩,
  ⟨some 15, .bin .lss [] (.t 14) (.c (.int .u64 9223372036854775808)), none⟩,
  ⟨some 4, .mv (.t 13), none⟩,
  ⟨some 5, .mv (.t 15), none⟩])
 (.ret))),
 [.tmp 4, .tmp 5], true⟩
/-- ephemeris/fix.Add -/
def M114 : MFunc := ⟨.seq (.reg [⟨some 4, .mv (.c (.int .i64 0)), none⟩,
  ⟨some 5, .mv (.c (.int .i64 0)), none⟩])
 (.seq (.reg [⟨some 7, .mv (.t 0), none⟩,
  ⟨some 8, .mv (.t 1), none⟩,
  ⟨some 9, .bin .add [] (.t 7) (.t 8), none⟩,
  ⟨some 6, .mv (.t 9), none⟩])
 (.seq (.seq (.reg [⟨some 10, .mv (.t 1), none⟩,
  ⟨some 11, .bin .neq [] (.t 10) (.c (.int .i64 0)), none⟩,
  ⟨some 12, .mv (.t 11), none⟩,
  ⟨some 13, .mv (.t 6), some (12, true)⟩,
  ⟨some 14, .mv (.t 0), some (12, true)⟩,
  ⟨some 15, .bin .gtr [] (.t 13) (.t 14), some (12, true)⟩,
  ⟨some 16, .mv (.t 1), some (12, true)⟩,
  ⟨some 17, .bin .gtr [] (.t 16) (.c (.int .i64 0)), some (12, true)⟩,
  ⟨some 18, .bin .neq [1] (.t 15) (.t 17), some (12, true)⟩,
  ⟨some 19, .pick (.t 12) (.t 18) (.c (.bool false)), none⟩])
 (.cond (.t 19)
 (.seq (.reg [⟨some 4, .mv (.c (.int .i64 0)), none⟩,
  ⟨some 5, .mv (.c (.int .i64 20)), none⟩])
 (.ret))
 (.skip)))
 (.seq (.reg [⟨some 20, .mv (.t 6), none⟩,
  ⟨some 4, .mv (.t 20), none⟩,
  ⟨some 5, .mv (.c (.int .i64 0)), none⟩])
 (.ret)))),
 [.tmp 4, .tmp 5], true⟩
/-- ephemeris/fix.nearest -/
def M115 : MFunc := ⟨.seq (.reg [⟨some 6, .mv (.c (.int .i64 0)), none⟩])
 (.seq (.block 0 []
 (.seq (.reg [⟨some 8, .mv (.t 1), none⟩,
  ⟨some 9, .bin .eql [] (.t 8) (.c (.int .i64 0)), none⟩,
  ⟨some 7, .mv (.t 9), none⟩])
 (.cond (.t 7)
 (.seq (.reg [⟨some 10, .mv (.t 0), none⟩,
  ⟨some 6, .mv (.t 10), none⟩])
 (.ret))
 (.seq (.reg [⟨some 12, .mv (.t 2), none⟩,
  ⟨some 11, .mv (.t 12), none⟩])
 (.cond (.t 11)
 (.seq (.reg [⟨some 6, .mv (.c (.int .i64 (-9223372036854775808))), none⟩])
 (.ret))
 (.skip))))))
 (.seq (.reg [⟨some 6, .mv (.c (.int .i64 9223372036854775807)), none⟩])
 (.ret))),
 [.tmp 6], true⟩
/-- ephemeris/ephemerisref19.Near -/
def M116 : MFunc := ⟨.seq (.reg [⟨some 2, .mv (.c (.int .i64 0)), none⟩])
 (.seq (.seq (.reg [⟨some 3, .mv (.t 0), none⟩,
  ⟨some 4, .bin .lss [] (.t 3) (.c (.int .i64 0)), none⟩])
 (.cond (.t 4)
 (.seq (.reg [⟨some 2, .mv (.c (.int .i64 0)), none⟩])
 (.ret))
 (.skip)))
 (.seq (.seq (.reg [⟨some 5, .mv (.t 0), none⟩,
  ⟨some 6, .bin .gtr [] (.t 5) (.c (.int .i64 4611686018427387904)), none⟩])
 (.cond (.t 6)
 (.seq (.reg [⟨some 2, .mv (.c (.int .i64 4611686018427387904)), none⟩])
 (.ret))
 (.skip)))
 (.seq (.reg [⟨some 7, .mv (.t 0), none⟩,
  ⟨some 2, .mv (.t 7), none⟩])
 (.ret)))),
 [.tmp 2], true⟩
/-- ephemeris/ephemerisref19.part -/
def M117 : MFunc := ⟨.seq (.reg [⟨some 6, .mv (.c (.int .i64 0)), none⟩])
 (.seq (.seq (.reg [⟨some 9, .mv (.t 0), none⟩,
  ⟨some 10, .bin .leq [] (.t 9) (.c (.int .i64 0)), none⟩])
 (.cond (.t 10)
 (.seq (.reg [⟨some 6, .mv (.c (.int .i64 0)), none⟩])
 (.ret))
 (.skip)))
 (.seq (.reg [⟨some 12, .mv (.t 0), none⟩,
  ⟨some 13, .mv (.t 1), none⟩,
  ⟨some 14, .mv (.t 2), none⟩,
  ⟨some 15, .call 68 [(.t 12), (.c (.int .i64 1000000000)), (.t 13), (.t 14)], none⟩,
  ⟨some 11, .mv (.t 15), none⟩,
  ⟨some 16, .ex 0 (.t 11), none⟩,
  ⟨some 17, .ex 1 (.t 11), none⟩,
  ⟨some 7, .mv (.t 16), none⟩,
  ⟨some 8, .mv (.t 17), none⟩])
 (.seq (.seq (.reg [⟨some 18, .mv (.t 8), none⟩,
  ⟨some 19, .bin .neq [] (.t 18) (.c (.int .i64 0)), none⟩,
  ⟨some 20, .mv (.t 19), none⟩,
  ⟨some 21, .mv (.t 7), some (20, false)⟩,
  ⟨some 22, .bin .gtr [] (.t 21) (.c (.int .i64 4611686018427387904)), some (20, false)⟩,
  ⟨some 23, .pick (.t 20) (.c (.bool true)) (.t 22), none⟩])
 (.cond (.t 23)
 (.seq (.reg [⟨some 6, .mv (.c (.int .i64 4611686018427387904)), none⟩])
 (.ret))
 (.skip)))
 (.seq (.reg [⟨some 24, .mv (.t 7), none⟩,
  ⟨some 6, .mv (.t 24), none⟩])
 (.ret))))),
 [.tmp 6], true⟩
def MPL : List (Nat × MFunc) := [(2, M2), (3, M3), (4, M4), (5, M5), (6, M6), (7, M7), (8, M8), (9, M9), (10, M10), (11, M11), (12, M12), (13, M13), (14, M14), (15, M15), (16, M16), (17, M17), (18, M18), (19, M19), (20, M20), (21, M21), (22, M22), (23, M23), (24, M24), (25, M25), (26, M26), (27, M27), (28, M28), (29, M29), (30, M30), (31, M31), (32, M32), (33, M33), (34, M34), (35, M35), (36, M36), (37, M37), (38, M38), (39, M39), (40, M40), (41, M41), (42, M42), (43, M43), (44, M44), (45, M45), (46, M46), (47, M47), (48, M48), (49, M49), (50, M50), (51, M51), (52, M52), (53, M53), (54, M54), (55, M55), (56, M56), (57, M57), (58, M58), (59, M59), (60, M60), (61, M61), (62, M62), (63, M63), (64, M64), (65, M65), (66, M66), (67, M67), (68, M68), (69, M69), (70, M70), (71, M71), (72, M72), (73, M73), (74, M74), (75, M75), (76, M76), (77, M77), (78, M78), (79, M79), (80, M80), (81, M81), (82, M82), (83, M83), (84, M84), (85, M85), (86, M86), (87, M87), (88, M88), (90, M90), (91, M91), (92, M92), (93, M93), (94, M94), (95, M95), (96, M96), (97, M97), (98, M98), (99, M99), (100, M100), (101, M101), (102, M102), (103, M103), (104, M104), (105, M105), (106, M106), (107, M107), (108, M108), (109, M109), (110, M110), (111, M111), (112, M112), (113, M113), (114, M114), (115, M115), (116, M116), (117, M117)]
def MP (f : Nat) : Option MFunc := MPL.lookup f
def GL : List Nat := [0, 1]
noncomputable def X : Ctx := ⟨Go.Proofs.Try.prog, 2, fun i => GL.getD i 0⟩
end Go.Proofs.YthcjmmngenogmaaW.AI.E
