import Derived.Test.YtdpbbagllhfjbaaDoorAISem17
import Derived.Test.YtdpbbagllhfjbaaDoorProg
namespace Go.Proofs.YtdpbbagllhfjbaaDoorW.AI.G
open Go Go.Proofs.YtdpbbagllhfjbaaDoorW.AI
def M4 : MFunc := ⟨.seq (.reg [⟨some 0, .mv (.c (.bool false)), none⟩])
 (.seq (.reg [⟨some 1, .mv (.c .nilp), none⟩])
 (.seq (.reg [⟨some 29, .bld [(.int .u8 0), (.int .u32 0), (.int .u32 0), (.int .u64 0), (.int .u64 0), (.int .i64 0), (.int .i64 0)] [], none⟩,
  ⟨some 30, .bx none 7 (.t 29), none⟩,
  ⟨some 2, .mv (.t 30), none⟩])
 (.seq (.reg [⟨some 32, .mv (.t 1), none⟩,
  ⟨some 33, .bld [(.int .i64 0), (.int .u8 0), (.str ⟨#[]⟩)] [], none⟩,
  ⟨some 34, .call 10 [(.t 32), (.c .nils), (.c (.int .i64 0)), (.c (.int .i64 0)), (.t 33)], none⟩,
  ⟨some 31, .mv (.t 34), none⟩,
  ⟨some 35, .ex 0 (.t 31), none⟩,
  ⟨some 36, .ex 1 (.t 31), none⟩,
  ⟨some 3, .mv (.t 35), none⟩,
  ⟨some 4, .mv (.t 36), none⟩])
 (.seq (.seq (.reg [⟨some 37, .mv (.t 4), none⟩,
  ⟨some 38, .bin .neq [] (.t 37) (.c (.int .i64 2)), none⟩,
  ⟨some 39, .mv (.t 38), none⟩,
  ⟨some 40, .mv (.t 2), some (39, false)⟩,
  ⟨some 41, .call 12 [(.t 40)], some (39, false)⟩,
  ⟨some 42, .bin .neq [] (.t 41) (.c (.int .i64 0)), some (39, false)⟩,
  ⟨some 43, .pick (.t 39) (.c (.bool true)) (.t 42), none⟩,
  ⟨some 44, .mv (.t 43), none⟩,
  ⟨some 45, .mv (.t 1), some (44, false)⟩,
  ⟨some 46, .call 13 [(.t 45)], some (44, false)⟩,
  ⟨some 47, .bld [(.int .u8 0), (.int .u32 0), (.int .u32 0), (.int .u64 0), (.int .u64 0), (.int .i64 0)] [], some (44, false)⟩,
  ⟨some 48, .bin .neq [5, 0, 0, 0, 0, 0, 0] (.t 46) (.t 47), some (44, false)⟩,
  ⟨some 49, .pick (.t 44) (.c (.bool true)) (.t 48), none⟩])
 (.cond (.t 49)
 (.seq (.reg [⟨some 0, .mv (.c (.bool false)), none⟩])
 (.ret))
 (.skip)))
 (.seq (.reg [⟨some 51, .bld [(.int .u8 0), (.int .u32 0), (.int .u32 0), (.int .u64 0), (.int .u64 0), (.int .i64 0)] [], none⟩,
  ⟨some 52, .call 7 [(.t 51)], none⟩,
  ⟨some 50, .mv (.t 52), none⟩,
  ⟨some 53, .ex 0 (.t 50), none⟩,
  ⟨some 54, .ex 1 (.t 50), none⟩,
  ⟨some 5, .mv (.t 53), none⟩,
  ⟨some 6, .mv (.t 54), none⟩])
 (.seq (.reg [⟨some 56, .bld [(.int .u8 0), (.int .u32 0), (.int .u32 0), (.int .u64 0), (.int .u64 0), (.int .i64 0)] [(0, 1, (.c (.int .u8 16)))], none⟩,
  ⟨some 57, .call 7 [(.t 56)], none⟩,
  ⟨some 55, .mv (.t 57), none⟩,
  ⟨some 58, .ex 0 (.t 55), none⟩,
  ⟨some 59, .ex 1 (.t 55), none⟩,
  ⟨some 7, .mv (.t 58), none⟩,
  ⟨some 8, .mv (.t 59), none⟩])
 (.seq (.reg [⟨some 61, .bld [(.int .u8 0), (.int .u32 0), (.int .u32 0), (.int .u64 0), (.int .u64 0), (.int .i64 0)] [(0, 1, (.c (.int .u8 1))), (5, 1, (.c (.int .i64 (-1))))], none⟩,
  ⟨some 62, .call 7 [(.t 61)], none⟩,
  ⟨some 60, .mv (.t 62), none⟩,
  ⟨some 63, .ex 0 (.t 60), none⟩,
  ⟨some 64, .ex 1 (.t 60), none⟩,
  ⟨some 9, .mv (.t 63), none⟩,
  ⟨some 10, .mv (.t 64), none⟩])
 (.seq (.reg [⟨some 66, .bld [(.int .u8 0), (.int .u32 0), (.int .u32 0), (.int .u64 0), (.int .u64 0), (.int .i64 0)] [(0, 1, (.c (.int .u8 1))), (5, 1, (.c (.int .i64 16000000001)))], none⟩,
  ⟨some 67, .call 7 [(.t 66)], none⟩,
  ⟨some 65, .mv (.t 67), none⟩,
  ⟨some 68, .ex 0 (.t 65), none⟩,
  ⟨some 69, .ex 1 (.t 65), none⟩,
  ⟨some 11, .mv (.t 68), none⟩,
  ⟨some 12, .mv (.t 69), none⟩])
 (.seq (.reg [⟨some 71, .bld [(.int .u8 0), (.int .u32 0), (.int .u32 0), (.int .u64 0), (.int .u64 0), (.int .i64 0)] [(0, 1, (.c (.int .u8 15))), (5, 1, (.c (.int .i64 16000000000)))], none⟩,
  ⟨some 72, .call 7 [(.t 71)], none⟩,
  ⟨some 70, .mv (.t 72), none⟩,
  ⟨some 73, .ex 0 (.t 70), none⟩,
  ⟨some 74, .ex 1 (.t 70), none⟩,
  ⟨some 13, .mv (.t 73), none⟩,
  ⟨some 14, .mv (.t 74), none⟩])
 (.seq (.seq (.reg [⟨some 75, .mv (.t 14), none⟩,
  ⟨some 76, .bin .neq [] (.t 75) (.c (.int .i64 0)), none⟩])
 (.cond (.t 76)
 (.seq (.reg [⟨some 0, .mv (.c (.bool false)), none⟩])
 (.ret))
 (.skip)))
 (.seq (.reg [⟨some 78, .mv (.t 13), none⟩,
  ⟨some 79, .bld [(.int .u32 0), (.int .u64 0), (.int .u64 0)] [(0, 1, (.c (.int .u32 4)))], none⟩,
  ⟨some 80, .call 14 [(.c (.int .u64 1)), (.t 79)], none⟩,
  ⟨some 81, .bld [(.int .i64 0), (.int .u8 0), (.str ⟨#[]⟩)] [], none⟩,
  ⟨some 82, .call 10 [(.t 78), (.t 80), (.c (.int .i64 0)), (.c (.int .i64 0)), (.t 81)], none⟩,
  ⟨some 77, .mv (.t 82), none⟩,
  ⟨some 83, .ex 0 (.t 77), none⟩,
  ⟨some 84, .ex 1 (.t 77), none⟩,
  ⟨some 15, .mv (.t 83), none⟩,
  ⟨some 16, .mv (.t 84), none⟩])
 (.seq (.reg [⟨some 86, .mv (.t 13), none⟩,
  ⟨some 87, .bld [(.int .u32 0), (.int .u64 0), (.int .u64 0)] [], none⟩,
  ⟨some 88, .call 14 [(.c (.int .u64 1)), (.t 87)], none⟩,
  ⟨some 89, .bld [(.int .i64 0), (.int .u8 0), (.str ⟨#[]⟩)] [(2, 1, (.c (.str ⟨#[82, 65, 84, 69, 83]⟩)))], none⟩,
  ⟨some 90, .call 10 [(.t 86), (.t 88), (.c (.int .i64 0)), (.c (.int .i64 0)), (.t 89)], none⟩,
  ⟨some 85, .mv (.t 90), none⟩,
  ⟨some 91, .ex 0 (.t 85), none⟩,
  ⟨some 92, .ex 1 (.t 85), none⟩,
  ⟨some 17, .mv (.t 91), none⟩,
  ⟨some 18, .mv (.t 92), none⟩])
 (.seq (.reg [⟨some 94, .mv (.t 13), none⟩,
  ⟨some 95, .bld [(.int .u32 0), (.int .u64 0), (.int .u64 0)] [], none⟩,
  ⟨some 96, .call 14 [(.c (.int .u64 1)), (.t 95)], none⟩,
  ⟨some 97, .bld [(.int .i64 0), (.int .u8 0), (.str ⟨#[]⟩)] [], none⟩,
  ⟨some 98, .call 10 [(.t 94), (.t 96), (.c (.int .i64 0)), (.c (.int .i64 4611686018427387904)), (.t 97)], none⟩,
  ⟨some 93, .mv (.t 98), none⟩,
  ⟨some 99, .ex 0 (.t 93), none⟩,
  ⟨some 100, .ex 1 (.t 93), none⟩,
  ⟨some 19, .mv (.t 99), none⟩,
  ⟨some 20, .mv (.t 100), none⟩])
 (.seq (.reg [⟨some 102, .mv (.t 19), none⟩,
  ⟨some 103, .call 15 [(.t 102)], none⟩,
  ⟨some 101, .mv (.t 103), none⟩,
  ⟨some 104, .ex 0 (.t 101), none⟩,
  ⟨some 105, .ex 1 (.t 101), none⟩,
  ⟨some 21, .al (.vals [(.int .u8 0), (.int .u8 0), (.int .u8 0), (.int .u8 0), (.int .i8 0), (.int .i8 0), (.int .u32 0), (.int .u32 0), (.int .u32 0), (.int .u64 0), (.int .u64 0), (.int .u64 0), (.int .u64 0), .nils, (.bool false), (.int .u32 0), (.int .u64 0)]), none⟩,
  ⟨none, .st 17 (.t 21) (.t 104), none⟩,
  ⟨some 22, .mv (.t 105), none⟩])
 (.seq (.reg [⟨some 107, .mv (.t 13), none⟩,
  ⟨some 108, .bld [(.int .u32 0), (.int .u64 0), (.int .u64 0)] [], none⟩,
  ⟨some 109, .call 14 [(.c (.int .u64 1)), (.t 108)], none⟩,
  ⟨some 110, .bld [(.int .i64 0), (.int .u8 0), (.str ⟨#[]⟩)] [(0, 1, (.c (.int .i64 1)))], none⟩,
  ⟨some 111, .call 10 [(.t 107), (.t 109), (.c (.int .i64 0)), (.c (.int .i64 4611686018427387904)), (.t 110)], none⟩,
  ⟨some 106, .mv (.t 111), none⟩,
  ⟨some 112, .ex 0 (.t 106), none⟩,
  ⟨some 113, .ex 1 (.t 106), none⟩,
  ⟨some 23, .mv (.t 112), none⟩,
  ⟨some 24, .mv (.t 113), none⟩])
 (.seq (.reg [⟨some 115, .mv (.t 13), none⟩,
  ⟨some 116, .bld [(.int .u32 0), (.int .u64 0), (.int .u64 0)] [], none⟩,
  ⟨some 117, .call 14 [(.c (.int .u64 1)), (.t 116)], none⟩,
  ⟨some 118, .bld [(.int .i64 0), (.int .u8 0), (.str ⟨#[]⟩)] [(0, 1, (.c (.int .i64 1)))], none⟩,
  ⟨some 119, .call 10 [(.t 115), (.t 117), (.c (.int .i64 (-1))), (.c (.int .i64 0)), (.t 118)], none⟩,
  ⟨some 114, .mv (.t 119), none⟩,
  ⟨some 120, .ex 0 (.t 114), none⟩,
  ⟨some 121, .ex 1 (.t 114), none⟩,
  ⟨some 25, .mv (.t 120), none⟩,
  ⟨some 26, .mv (.t 121), none⟩])
 (.seq (.reg [⟨some 123, .mv (.t 13), none⟩,
  ⟨some 124, .bld [(.int .u32 0), (.int .u64 0), (.int .u64 0)] [], none⟩,
  ⟨some 125, .call 14 [(.c (.int .u64 1)), (.t 124)], none⟩,
  ⟨some 126, .bld [(.int .i64 0), (.int .u8 0), (.str ⟨#[]⟩)] [(0, 1, (.c (.int .i64 (-9223372036854775808))))], none⟩,
  ⟨some 127, .call 10 [(.t 123), (.t 125), (.c (.int .i64 0)), (.c (.int .i64 0)), (.t 126)], none⟩,
  ⟨some 122, .mv (.t 127), none⟩,
  ⟨some 128, .ex 0 (.t 122), none⟩,
  ⟨some 129, .ex 1 (.t 122), none⟩,
  ⟨some 27, .mv (.t 128), none⟩,
  ⟨some 28, .mv (.t 129), none⟩])
 (.seq (.reg [⟨some 130, .mv (.t 6), none⟩,
  ⟨some 131, .bin .eql [] (.t 130) (.c (.int .i64 1)), none⟩,
  ⟨some 132, .mv (.t 131), none⟩,
  ⟨some 133, .mv (.t 8), some (132, true)⟩,
  ⟨some 134, .bin .eql [] (.t 133) (.c (.int .i64 1)), some (132, true)⟩,
  ⟨some 135, .pick (.t 132) (.t 134) (.c (.bool false)), none⟩,
  ⟨some 136, .mv (.t 135), none⟩,
  ⟨some 137, .mv (.t 10), some (136, true)⟩,
  ⟨some 138, .bin .eql [] (.t 137) (.c (.int .i64 1)), some (136, true)⟩,
  ⟨some 139, .pick (.t 136) (.t 138) (.c (.bool false)), none⟩,
  ⟨some 140, .mv (.t 139), none⟩,
  ⟨some 141, .mv (.t 12), some (140, true)⟩,
  ⟨some 142, .bin .eql [] (.t 141) (.c (.int .i64 1)), some (140, true)⟩,
  ⟨some 143, .pick (.t 140) (.t 142) (.c (.bool false)), none⟩,
  ⟨some 144, .mv (.t 143), none⟩,
  ⟨some 145, .mv (.t 16), some (144, true)⟩,
  ⟨some 146, .bin .eql [] (.t 145) (.c (.int .i64 21)), some (144, true)⟩,
  ⟨some 147, .pick (.t 144) (.t 146) (.c (.bool false)), none⟩,
  ⟨some 148, .mv (.t 147), none⟩,
  ⟨some 149, .mv (.t 18), some (148, true)⟩,
  ⟨some 150, .bin .eql [] (.t 149) (.c (.int .i64 1)), some (148, true)⟩,
  ⟨some 151, .pick (.t 148) (.t 150) (.c (.bool false)), none⟩,
  ⟨some 152, .mv (.t 151), none⟩,
  ⟨some 153, .mv (.t 20), some (152, true)⟩,
  ⟨some 154, .bin .eql [] (.t 153) (.c (.int .i64 0)), some (152, true)⟩,
  ⟨some 155, .pick (.t 152) (.t 154) (.c (.bool false)), none⟩,
  ⟨some 156, .mv (.t 155), none⟩,
  ⟨some 157, .mv (.t 22), some (156, true)⟩,
  ⟨some 158, .bin .eql [] (.t 157) (.c (.int .i64 0)), some (156, true)⟩,
  ⟨some 159, .pick (.t 156) (.t 158) (.c (.bool false)), none⟩,
  ⟨some 160, .mv (.t 159), none⟩,
  ⟨some 161, .fa 7 (.t 21), some (160, true)⟩,
  ⟨some 162, .ld none (.t 161), some (160, true)⟩,
  ⟨some 163, .bin .eql [] (.t 162) (.c (.int .u32 1048576)), some (160, true)⟩,
  ⟨some 164, .pick (.t 160) (.t 163) (.c (.bool false)), none⟩,
  ⟨some 165, .mv (.t 164), none⟩,
  ⟨some 166, .fa 4 (.t 21), some (165, true)⟩,
  ⟨some 167, .ld none (.t 166), some (165, true)⟩,
  ⟨some 168, .bin .eql [] (.t 167) (.c (.int .i8 6)), some (165, true)⟩,
  ⟨some 169, .pick (.t 165) (.t 168) (.c (.bool false)), none⟩,
  ⟨some 170, .mv (.t 169), none⟩,
  ⟨some 171, .fa 5 (.t 21), some (170, true)⟩,
  ⟨some 172, .ld none (.t 171), some (170, true)⟩,
  ⟨some 173, .bin .eql [] (.t 172) (.c (.int .i8 (-20))), some (170, true)⟩,
  ⟨some 174, .pick (.t 170) (.t 173) (.c (.bool false)), none⟩,
  ⟨some 175, .mv (.t 174), none⟩,
  ⟨some 176, .fa 11 (.t 21), some (175, true)⟩,
  ⟨some 177, .ld none (.t 176), some (175, true)⟩,
  ⟨some 178, .bin .eql [] (.t 177) (.c (.int .u64 0)), some (175, true)⟩,
  ⟨some 179, .pick (.t 175) (.t 178) (.c (.bool false)), none⟩,
  ⟨some 180, .mv (.t 179), none⟩,
  ⟨some 181, .ld (some 17) (.t 21), some (180, true)⟩,
  ⟨some 182, .call 16 [(.t 181)], some (180, true)⟩,
  ⟨some 183, .bin .eql [] (.t 182) (.c (.int .i64 24)), some (180, true)⟩,
  ⟨some 184, .pick (.t 180) (.t 183) (.c (.bool false)), none⟩,
  ⟨some 185, .mv (.t 184), none⟩,
  ⟨some 186, .mv (.t 24), some (185, true)⟩,
  ⟨some 187, .bin .eql [] (.t 186) (.c (.int .i64 1)), some (185, true)⟩,
  ⟨some 188, .pick (.t 185) (.t 187) (.c (.bool false)), none⟩,
  ⟨some 189, .mv (.t 188), none⟩,
  ⟨some 190, .mv (.t 26), some (189, true)⟩,
  ⟨some 191, .bin .eql [] (.t 190) (.c (.int .i64 1)), some (189, true)⟩,
  ⟨some 192, .pick (.t 189) (.t 191) (.c (.bool false)), none⟩,
  ⟨some 193, .mv (.t 192), none⟩,
  ⟨some 194, .mv (.t 28), some (193, true)⟩,
  ⟨some 195, .bin .eql [] (.t 194) (.c (.int .i64 1)), some (193, true)⟩,
  ⟨some 196, .pick (.t 193) (.t 195) (.c (.bool false)), none⟩,
  ⟨some 197, .mv (.t 196), none⟩,
  ⟨some 198, .mv (.t 13), some (197, true)⟩,
  ⟨some 199, .call 12 [(.t 198)], some (197, true)⟩,
  ⟨some 200, .bin .eql [] (.t 199) (.c (.int .i64 1)), some (197, true)⟩,
  ⟨some 201, .pick (.t 197) (.t 200) (.c (.bool false)), none⟩,
  ⟨some 202, .mv (.t 201), none⟩,
  ⟨some 203, .call 9 [], some (202, true)⟩,
  ⟨some 204, .pick (.t 202) (.t 203) (.c (.bool false)), none⟩,
  ⟨some 0, .mv (.t 204), none⟩])
 (.ret))))))))))))))))))),
 [.tmp 0], true⟩
def M5 : MFunc := ⟨.seq (.reg [⟨some 6, .bx none 6 (.t 0), none⟩,
  ⟨some 12, .mv (.c (.bool false)), none⟩])
 (.seq (.reg [⟨some 28, .ld (some 6) (.t 6), none⟩,
  ⟨some 29, .call 17 [(.t 28)], none⟩,
  ⟨some 27, .mv (.t 29), none⟩,
  ⟨some 30, .ex 0 (.t 27), none⟩,
  ⟨some 31, .ex 1 (.t 27), none⟩,
  ⟨some 13, .mv (.t 30), none⟩,
  ⟨none, .st 6 (.t 6) (.t 31), none⟩])
 (.seq (.seq (.reg [⟨some 32, .mv (.t 13), none⟩,
  ⟨some 33, .bin .eql [2] (.t 32) (.c .nilp), none⟩])
 (.cond (.t 33)
 (.seq (.reg [⟨some 12, .mv (.c (.bool false)), none⟩])
 (.ret))
 (.skip)))
 (.seq (.reg [⟨some 34, .mv (.t 2), none⟩,
  ⟨some 35, .bin .and [] (.t 34) (.c (.int .i64 2305843009213693951)), none⟩,
  ⟨some 36, .bin .add [] (.c (.int .i64 1000000000)) (.t 35), none⟩,
  ⟨some 2, .mv (.t 36), none⟩])
 (.seq (.reg [⟨some 37, .mv (.t 2), none⟩,
  ⟨some 38, .mv (.t 3), none⟩,
  ⟨some 39, .bin .and [] (.t 38) (.c (.int .i64 4294967295)), none⟩,
  ⟨some 40, .bin .add [] (.t 37) (.t 39), none⟩,
  ⟨some 14, .mv (.t 40), none⟩])
 (.seq (.seq (.reg [⟨some 41, .mv (.t 4), none⟩,
  ⟨some 42, .bin .lss [] (.t 41) (.c (.int .i64 0)), none⟩])
 (.cond (.t 42)
 (.reg [⟨some 43, .mv (.t 4), none⟩,
  ⟨some 44, .bin .rem [] (.t 43) (.c (.int .i64 1000000000)), none⟩,
  ⟨some 4, .mv (.t 44), none⟩])
 (.reg [⟨some 45, .mv (.t 4), none⟩,
  ⟨some 46, .bin .and [] (.t 45) (.c (.int .i64 1152921504606846975)), none⟩,
  ⟨some 4, .mv (.t 46), none⟩])))
 (.seq (.reg [⟨some 47, .mv (.t 2), none⟩,
  ⟨some 48, .mv (.t 5), none⟩,
  ⟨some 49, .bin .rem [] (.t 48) (.c (.int .i64 1073741824000000000)), none⟩,
  ⟨some 50, .bin .add [] (.t 47) (.t 49), none⟩,
  ⟨some 15, .mv (.t 50), none⟩])
 (.seq (.reg [⟨some 52, .mv (.t 13), none⟩,
  ⟨some 53, .mv (.t 1), none⟩,
  ⟨some 54, .fa 2 (.t 6), none⟩,
  ⟨some 55, .ld (some 3) (.t 54), none⟩,
  ⟨some 56, .call 14 [(.t 53), (.t 55)], none⟩,
  ⟨some 57, .mv (.t 2), none⟩,
  ⟨some 58, .mv (.t 14), none⟩,
  ⟨some 59, .bld [(.int .i64 0), (.int .u8 0), (.str ⟨#[]⟩)] [], none⟩,
  ⟨some 60, .call 10 [(.t 52), (.t 56), (.t 57), (.t 58), (.t 59)], none⟩,
  ⟨some 51, .mv (.t 60), none⟩,
  ⟨some 61, .ex 0 (.t 51), none⟩,
  ⟨some 62, .ex 1 (.t 51), none⟩,
  ⟨some 16, .mv (.t 61), none⟩,
  ⟨some 17, .mv (.t 62), none⟩])
 (.seq (.reg [⟨some 64, .mv (.t 16), none⟩,
  ⟨some 65, .call 15 [(.t 64)], none⟩,
  ⟨some 63, .mv (.t 65), none⟩,
  ⟨some 66, .ex 0 (.t 63), none⟩,
  ⟨some 67, .ex 1 (.t 63), none⟩,
  ⟨some 18, .al (.vals [(.int .u8 0), (.int .u8 0), (.int .u8 0), (.int .u8 0), (.int .i8 0), (.int .i8 0), (.int .u32 0), (.int .u32 0), (.int .u32 0), (.int .u64 0), (.int .u64 0), (.int .u64 0), (.int .u64 0), .nils, (.bool false), (.int .u32 0), (.int .u64 0)]), none⟩,
  ⟨none, .st 17 (.t 18) (.t 66), none⟩,
  ⟨some 19, .mv (.t 67), none⟩])
 (.seq (.seq (.reg [⟨some 68, .mv (.t 17), none⟩,
  ⟨some 69, .bin .neq [] (.t 68) (.c (.int .i64 0)), none⟩,
  ⟨some 70, .mv (.t 69), none⟩,
  ⟨some 71, .mv (.t 19), some (70, false)⟩,
  ⟨some 72, .bin .neq [] (.t 71) (.c (.int .i64 0)), some (70, false)⟩,
  ⟨some 73, .pick (.t 70) (.c (.bool true)) (.t 72), none⟩,
  ⟨some 74, .mv (.t 73), none⟩,
  ⟨some 75, .ld (some 17) (.t 18), some (74, false)⟩,
  ⟨some 76, .fa 2 (.t 6), some (74, false)⟩,
  ⟨some 77, .ld (some 3) (.t 76), some (74, false)⟩,
  ⟨some 78, .call 18 [(.t 75), (.t 77)], some (74, false)⟩,
  ⟨some 79, .un .not (.t 78), some (74, false)⟩,
  ⟨some 80, .pick (.t 74) (.c (.bool true)) (.t 79), none⟩,
  ⟨some 81, .mv (.t 80), none⟩,
  ⟨some 82, .fa 10 (.t 18), some (81, false)⟩,
  ⟨some 83, .ld none (.t 82), some (81, false)⟩,
  ⟨some 84, .mv (.t 1), some (81, false)⟩,
  ⟨some 85, .bin .neq [] (.t 83) (.t 84), some (81, false)⟩,
  ⟨some 86, .pick (.t 81) (.c (.bool true)) (.t 85), none⟩,
  ⟨some 87, .mv (.t 86), none⟩,
  ⟨some 88, .mv (.t 13), some (87, false)⟩,
  ⟨some 89, .call 12 [(.t 88)], some (87, false)⟩,
  ⟨some 90, .bin .neq [] (.t 89) (.c (.int .i64 1)), some (87, false)⟩,
  ⟨some 91, .pick (.t 87) (.c (.bool true)) (.t 90), none⟩])
 (.cond (.t 91)
 (.seq (.reg [⟨some 12, .mv (.c (.bool false)), none⟩])
 (.ret))
 (.skip)))
 (.seq (.reg [⟨some 92, .mv (.t 15), none⟩,
  ⟨some 93, .bin .geq [] (.t 92) (.c (.int .i64 0)), none⟩,
  ⟨some 94, .mv (.t 93), none⟩,
  ⟨some 95, .mv (.t 15), some (94, true)⟩,
  ⟨some 96, .bin .leq [] (.t 95) (.c (.int .i64 4611686018427387904)), some (94, true)⟩,
  ⟨some 97, .pick (.t 94) (.t 96) (.c (.bool false)), none⟩,
  ⟨some 20, .mv (.t 97), none⟩])
 (.seq (.seq (.reg [⟨some 98, .mv (.t 20), none⟩,
  ⟨some 99, .mv (.t 98), none⟩,
  ⟨some 100, .fa 11 (.t 18), some (99, true)⟩,
  ⟨some 101, .ld none (.t 100), some (99, true)⟩,
  ⟨some 102, .mv (.t 15), some (99, true)⟩,
  ⟨some 103, .call 19 [(.t 101), (.t 102)], some (99, true)⟩,
  ⟨some 104, .mv (.t 2), some (99, true)⟩,
  ⟨some 105, .bin .neq [] (.t 103) (.t 104), some (99, true)⟩,
  ⟨some 106, .mv (.t 105), some (99, true)⟩,
  ⟨some 107, .fa 12 (.t 18), some (106, false)⟩,
  ⟨some 108, .ld none (.t 107), some (106, false)⟩,
  ⟨some 109, .mv (.t 14), some (106, false)⟩,
  ⟨some 110, .call 19 [(.t 108), (.t 109)], some (106, false)⟩,
  ⟨some 111, .mv (.t 14), some (106, false)⟩,
  ⟨some 112, .bin .neq [] (.t 110) (.t 111), some (106, false)⟩,
  ⟨some 113, .pick (.t 106) (.c (.bool true)) (.t 112), some (99, true)⟩,
  ⟨some 114, .pick (.t 99) (.t 113) (.c (.bool false)), none⟩,
  ⟨some 115, .mv (.t 114), none⟩,
  ⟨some 116, .fa 11 (.t 18), some (115, false)⟩,
  ⟨some 117, .ld none (.t 116), some (115, false)⟩,
  ⟨some 118, .bin .neq [] (.t 117) (.c (.int .u64 0)), some (115, false)⟩,
  ⟨some 119, .mv (.t 118), some (115, false)⟩,
  ⟨some 120, .fa 12 (.t 18), some (119, true)⟩,
  ⟨some 121, .ld none (.t 120), some (119, true)⟩,
  ⟨some 122, .bin .neq [] (.t 121) (.c (.int .u64 0)), some (119, true)⟩,
  ⟨some 123, .pick (.t 119) (.t 122) (.c (.bool false)), some (115, false)⟩,
  ⟨some 124, .mv (.t 123), some (115, false)⟩,
  ⟨some 125, .ld (some 17) (.t 18), some (124, true)⟩,
  ⟨some 126, .call 16 [(.t 125)], some (124, true)⟩,
  ⟨some 127, .bin .neq [] (.t 126) (.c (.int .i64 0)), some (124, true)⟩,
  ⟨some 128, .pick (.t 124) (.t 127) (.c (.bool false)), some (115, false)⟩,
  ⟨some 129, .pick (.t 115) (.c (.bool true)) (.t 128), none⟩])
 (.cond (.t 129)
 (.seq (.reg [⟨some 12, .mv (.c (.bool false)), none⟩])
 (.ret))
 (.skip)))
 (.seq (.seq (.reg [⟨some 130, .ld (some 17) (.t 18), none⟩,
  ⟨some 131, .call 20 [(.t 130)], none⟩,
  ⟨some 21, .mv (.t 131), none⟩])
 (.seq (.reg [⟨some 132, .mv (.t 21), none⟩,
  ⟨some 133, .fa 5 (.t 6), none⟩,
  ⟨some 134, .ld none (.t 133), none⟩,
  ⟨some 135, .bin .lss [] (.t 132) (.t 134), none⟩,
  ⟨some 136, .mv (.t 135), none⟩,
  ⟨some 137, .mv (.t 21), some (136, false)⟩,
  ⟨some 138, .fa 5 (.t 6), some (136, false)⟩,
  ⟨some 139, .ld none (.t 138), some (136, false)⟩,
  ⟨some 140, .bin .sub [] (.t 137) (.t 139), some (136, false)⟩,
  ⟨some 141, .bin .geq [] (.t 140) (.c (.int .i64 15259)), some (136, false)⟩,
  ⟨some 142, .pick (.t 136) (.c (.bool true)) (.t 141), none⟩])
 (.cond (.t 142)
 (.seq (.reg [⟨some 12, .mv (.c (.bool false)), none⟩])
 (.ret))
 (.skip))))
 (.seq (.reg [⟨some 144, .mv (.t 13), none⟩,
  ⟨some 145, .mv (.t 1), none⟩,
  ⟨some 146, .fa 2 (.t 6), none⟩,
  ⟨some 147, .ld (some 3) (.t 146), none⟩,
  ⟨some 148, .call 14 [(.t 145), (.t 147)], none⟩,
  ⟨some 149, .mv (.t 2), none⟩,
  ⟨some 150, .mv (.t 14), none⟩,
  ⟨some 151, .mv (.t 4), none⟩,
  ⟨some 152, .bld [(.int .i64 0), (.int .u8 0), (.str ⟨#[]⟩)] [(0, 1, (.t 151))], none⟩,
  ⟨some 153, .call 10 [(.t 144), (.t 148), (.t 149), (.t 150), (.t 152)], none⟩,
  ⟨some 143, .mv (.t 153), none⟩,
  ⟨some 154, .ex 0 (.t 143), none⟩,
  ⟨some 155, .ex 1 (.t 143), none⟩,
  ⟨some 22, .mv (.t 154), none⟩,
  ⟨some 23, .mv (.t 155), none⟩])
 (.seq (.reg [⟨some 157, .mv (.t 22), none⟩,
  ⟨some 158, .call 15 [(.t 157)], none⟩,
  ⟨some 156, .mv (.t 158), none⟩,
  ⟨some 159, .ex 0 (.t 156), none⟩,
  ⟨some 160, .ex 1 (.t 156), none⟩,
  ⟨some 24, .al (.vals [(.int .u8 0), (.int .u8 0), (.int .u8 0), (.int .u8 0), (.int .i8 0), (.int .i8 0), (.int .u32 0), (.int .u32 0), (.int .u32 0), (.int .u64 0), (.int .u64 0), (.int .u64 0), (.int .u64 0), .nils, (.bool false), (.int .u32 0), (.int .u64 0)]), none⟩,
  ⟨none, .st 17 (.t 24) (.t 159), none⟩,
  ⟨some 25, .mv (.t 160), none⟩])
 (.seq (.seq (.reg [⟨some 161, .mv (.t 23), none⟩,
  ⟨some 162, .bin .neq [] (.t 161) (.c (.int .i64 0)), none⟩,
  ⟨some 163, .mv (.t 162), none⟩,
  ⟨some 164, .mv (.t 25), some (163, false)⟩,
  ⟨some 165, .bin .neq [] (.t 164) (.c (.int .i64 0)), some (163, false)⟩,
  ⟨some 166, .pick (.t 163) (.c (.bool true)) (.t 165), none⟩,
  ⟨some 167, .mv (.t 166), none⟩,
  ⟨some 168, .ld (some 17) (.t 24), some (167, false)⟩,
  ⟨some 169, .fa 2 (.t 6), some (167, false)⟩,
  ⟨some 170, .ld (some 3) (.t 169), some (167, false)⟩,
  ⟨some 171, .call 18 [(.t 168), (.t 170)], some (167, false)⟩,
  ⟨some 172, .un .not (.t 171), some (167, false)⟩,
  ⟨some 173, .pick (.t 167) (.c (.bool true)) (.t 172), none⟩,
  ⟨some 174, .mv (.t 173), none⟩,
  ⟨some 175, .fa 11 (.t 24), some (174, false)⟩,
  ⟨some 176, .ld none (.t 175), some (174, false)⟩,
  ⟨some 177, .mv (.t 2), some (174, false)⟩,
  ⟨some 178, .mv (.t 4), some (174, false)⟩,
  ⟨some 179, .bin .add [] (.t 177) (.t 178), some (174, false)⟩,
  ⟨some 180, .call 19 [(.t 176), (.t 179)], some (174, false)⟩,
  ⟨some 181, .mv (.t 2), some (174, false)⟩,
  ⟨some 182, .mv (.t 4), some (174, false)⟩,
  ⟨some 183, .bin .add [] (.t 181) (.t 182), some (174, false)⟩,
  ⟨some 184, .bin .neq [] (.t 180) (.t 183), some (174, false)⟩,
  ⟨some 185, .pick (.t 174) (.c (.bool true)) (.t 184), none⟩,
  ⟨some 186, .mv (.t 185), none⟩,
  ⟨some 187, .fa 12 (.t 24), some (186, false)⟩,
  ⟨some 188, .ld none (.t 187), some (186, false)⟩,
  ⟨some 189, .mv (.t 14), some (186, false)⟩,
  ⟨some 190, .mv (.t 4), some (186, false)⟩,
  ⟨some 191, .bin .add [] (.t 189) (.t 190), some (186, false)⟩,
  ⟨some 192, .call 19 [(.t 188), (.t 191)], some (186, false)⟩,
  ⟨some 193, .mv (.t 14), some (186, false)⟩,
  ⟨some 194, .mv (.t 4), some (186, false)⟩,
  ⟨some 195, .bin .add [] (.t 193) (.t 194), some (186, false)⟩,
  ⟨some 196, .bin .neq [] (.t 192) (.t 195), some (186, false)⟩,
  ⟨some 197, .pick (.t 186) (.c (.bool true)) (.t 196), none⟩])
 (.cond (.t 197)
 (.seq (.reg [⟨some 12, .mv (.c (.bool false)), none⟩])
 (.ret))
 (.skip)))
 (.seq (.regd [(0, ⟨some 198, .fa 9 (.t 18), none⟩),
  (1, ⟨some 199, .ld none (.t 198), none⟩),
  (2, ⟨some 200, .fa 11 (.t 18), none⟩),
  (3, ⟨some 201, .ld none (.t 200), none⟩),
  (4, ⟨some 202, .fa 12 (.t 18), none⟩),
  (5, ⟨some 203, .ld none (.t 202), none⟩),
  (6, ⟨some 204, .fa 9 (.t 24), none⟩),
  (7, ⟨none, .st 1 (.t 204) (.t 199), none⟩),
  (8, ⟨some 205, .fa 11 (.t 24), none⟩),
  (9, ⟨none, .st 1 (.t 205) (.t 201), none⟩),
  (10, ⟨some 206, .fa 12 (.t 24), none⟩),
  (11, ⟨none, .st 1 (.t 206) (.t 203), none⟩)] [(3, 7), (5, 7), (5, 9)])
 (.seq (.reg [⟨some 208, .ld (some 17) (.t 24), none⟩,
  ⟨some 209, .fa 2 (.t 6), none⟩,
  ⟨some 210, .ld (some 3) (.t 209), none⟩,
  ⟨some 211, .call 21 [(.t 208), (.t 210)], none⟩,
  ⟨some 207, .mv (.t 211), none⟩,
  ⟨some 212, .ex 0 (.t 207), none⟩,
  ⟨some 213, .ex 1 (.t 207), none⟩,
  ⟨none, .st 17 (.t 24) (.t 212), none⟩,
  ⟨some 26, .mv (.t 213), none⟩])
 (.seq (.reg [⟨some 214, .mv (.t 26), none⟩,
  ⟨some 215, .bin .eql [] (.t 214) (.c (.int .i64 0)), none⟩,
  ⟨some 216, .mv (.t 215), none⟩,
  ⟨some 217, .ld (some 17) (.t 18), some (216, true)⟩,
  ⟨some 218, .ld (some 17) (.t 24), some (216, true)⟩,
  ⟨some 219, .call 22 [(.t 217), (.t 218)], some (216, true)⟩,
  ⟨some 220, .pick (.t 216) (.t 219) (.c (.bool false)), none⟩,
  ⟨some 221, .mv (.t 220), none⟩,
  ⟨some 222, .call 9 [], some (221, true)⟩,
  ⟨some 223, .pick (.t 221) (.t 222) (.c (.bool false)), none⟩,
  ⟨some 12, .mv (.t 223), none⟩])
 (.ret))))))))))))))))))),
 [.tmp 12], true⟩
def M6 : MFunc := ⟨.seq (.reg [⟨some 4, .bx none 6 (.t 0), none⟩,
  ⟨some 7, .bx none 3 (.t 3), none⟩,
  ⟨some 8, .mv (.c (.bool false)), none⟩])
 (.seq (.reg [⟨some 42, .ld (some 6) (.t 4), none⟩,
  ⟨some 43, .call 17 [(.t 42)], none⟩,
  ⟨some 41, .mv (.t 43), none⟩,
  ⟨some 44, .ex 0 (.t 41), none⟩,
  ⟨some 45, .ex 1 (.t 41), none⟩,
  ⟨some 9, .mv (.t 44), none⟩,
  ⟨none, .st 6 (.t 4) (.t 45), none⟩])
 (.seq (.seq (.reg [⟨some 46, .mv (.t 9), none⟩,
  ⟨some 47, .bin .eql [2] (.t 46) (.c .nilp), none⟩])
 (.cond (.t 47)
 (.seq (.reg [⟨some 8, .mv (.c (.bool false)), none⟩])
 (.ret))
 (.skip)))
 (.seq (.reg [⟨some 48, .mv (.t 2), none⟩,
  ⟨some 49, .mv (.t 2), none⟩,
  ⟨some 50, .lens (.t 49), none⟩,
  ⟨some 51, .mnx false [(.t 50), (.c (.int .i64 4))], none⟩,
  ⟨some 52, .slstr (.t 48) none (some (.t 51)), none⟩,
  ⟨some 2, .mv (.t 52), none⟩])
 (.seq (.reg [⟨some 54, .mv (.t 9), none⟩,
  ⟨some 55, .mv (.t 1), none⟩,
  ⟨some 56, .bld [(.int .u32 0), (.int .u64 0), (.int .u64 0)] [], none⟩,
  ⟨some 57, .call 14 [(.t 55), (.t 56)], none⟩,
  ⟨some 58, .mv (.t 2), none⟩,
  ⟨some 59, .bld [(.int .i64 0), (.int .u8 0), (.str ⟨#[]⟩)] [(2, 1, (.t 58))], none⟩,
  ⟨some 60, .call 10 [(.t 54), (.t 57), (.c (.int .i64 1000000000)), (.c (.int .i64 1000000000)), (.t 59)], none⟩,
  ⟨some 53, .mv (.t 60), none⟩,
  ⟨some 61, .ex 0 (.t 53), none⟩,
  ⟨some 62, .ex 1 (.t 53), none⟩,
  ⟨some 10, .mv (.t 61), none⟩,
  ⟨some 11, .mv (.t 62), none⟩])
 (.seq (.reg [⟨some 64, .mv (.t 10), none⟩,
  ⟨some 65, .call 15 [(.t 64)], none⟩,
  ⟨some 63, .mv (.t 65), none⟩,
  ⟨some 66, .ex 0 (.t 63), none⟩,
  ⟨some 67, .ex 1 (.t 63), none⟩,
  ⟨some 12, .al (.vals [(.int .u8 0), (.int .u8 0), (.int .u8 0), (.int .u8 0), (.int .i8 0), (.int .i8 0), (.int .u32 0), (.int .u32 0), (.int .u32 0), (.int .u64 0), (.int .u64 0), (.int .u64 0), (.int .u64 0), .nils, (.bool false), (.int .u32 0), (.int .u64 0)]), none⟩,
  ⟨none, .st 17 (.t 12) (.t 66), none⟩,
  ⟨some 13, .mv (.t 67), none⟩])
 (.seq (.reg [⟨some 69, .ld (some 17) (.t 12), none⟩,
  ⟨some 70, .call 23 [(.t 69)], none⟩,
  ⟨some 68, .mv (.t 70), none⟩,
  ⟨some 71, .ex 0 (.t 68), none⟩,
  ⟨some 72, .ex 1 (.t 68), none⟩,
  ⟨some 14, .mv (.t 71), none⟩,
  ⟨some 15, .mv (.t 72), none⟩])
 (.seq (.reg [⟨some 73, .mv (.t 2), none⟩,
  ⟨some 74, .lens (.t 73), none⟩,
  ⟨some 16, .mv (.t 74), none⟩])
 (.seq (.block 0 [1, 2, 4, 7, 9, 10, 11, 12, 13, 14, 15, 16]
 (.loop [1, 2, 4, 7, 9, 10, 11, 12, 13, 14, 15, 16]
 (.seq (.seq (.reg [⟨some 75, .mv (.t 16), none⟩,
  ⟨some 76, .bin .gtr [] (.t 75) (.c (.int .i64 0)), none⟩,
  ⟨some 77, .mv (.t 76), none⟩,
  ⟨some 78, .mv (.t 2), some (77, true)⟩,
  ⟨some 79, .mv (.t 16), some (77, true)⟩,
  ⟨some 80, .bin .sub [] (.t 79) (.c (.int .i64 1)), some (77, true)⟩,
  ⟨some 81, .ixs (.t 78) (.t 80), some (77, true)⟩,
  ⟨some 82, .bin .eql [] (.t 81) (.c (.int .u8 0)), some (77, true)⟩,
  ⟨some 83, .pick (.t 77) (.t 82) (.c (.bool false)), none⟩])
 (.cond (.t 83)
 (.skip)
 (.exit 0)))
 (.block 1 [1, 2, 4, 7, 9, 10, 11, 12, 13, 14, 15, 16]
 (.reg [⟨some 84, .mv (.t 16), none⟩,
  ⟨some 85, .bin .sub [] (.t 84) (.c (.int .i64 1)), none⟩,
  ⟨some 16, .mv (.t 85), none⟩])))))
 (.seq (.seq (.reg [⟨some 86, .mv (.t 11), none⟩,
  ⟨some 87, .bin .neq [] (.t 86) (.c (.int .i64 0)), none⟩,
  ⟨some 88, .mv (.t 87), none⟩,
  ⟨some 89, .mv (.t 13), some (88, false)⟩,
  ⟨some 90, .bin .neq [] (.t 89) (.c (.int .i64 0)), some (88, false)⟩,
  ⟨some 91, .pick (.t 88) (.c (.bool true)) (.t 90), none⟩,
  ⟨some 92, .mv (.t 91), none⟩,
  ⟨some 93, .fa 14 (.t 12), some (92, false)⟩,
  ⟨some 94, .ld none (.t 93), some (92, false)⟩,
  ⟨some 95, .pick (.t 92) (.c (.bool true)) (.t 94), none⟩,
  ⟨some 96, .mv (.t 95), none⟩,
  ⟨some 97, .ld (some 17) (.t 12), some (96, false)⟩,
  ⟨some 98, .call 16 [(.t 97)], some (96, false)⟩,
  ⟨some 99, .bin .eql [] (.t 98) (.c (.int .i64 23)), some (96, false)⟩,
  ⟨some 100, .mv (.t 2), some (96, false)⟩,
  ⟨some 101, .bin .neq [] (.t 100) (.c (.str ⟨#[]⟩)), some (96, false)⟩,
  ⟨some 102, .bin .neq [1] (.t 99) (.t 101), some (96, false)⟩,
  ⟨some 103, .pick (.t 96) (.c (.bool true)) (.t 102), none⟩,
  ⟨some 104, .mv (.t 103), none⟩,
  ⟨some 105, .mv (.t 15), some (104, false)⟩,
  ⟨some 106, .mv (.t 2), some (104, false)⟩,
  ⟨some 107, .bin .neq [] (.t 106) (.c (.str ⟨#[]⟩)), some (104, false)⟩,
  ⟨some 108, .bin .neq [1] (.t 105) (.t 107), some (104, false)⟩,
  ⟨some 109, .pick (.t 104) (.c (.bool true)) (.t 108), none⟩,
  ⟨some 110, .mv (.t 109), none⟩,
  ⟨some 111, .mv (.t 15), some (110, false)⟩,
  ⟨some 112, .mv (.t 111), some (110, false)⟩,
  ⟨some 113, .mv (.t 14), some (112, true)⟩,
  ⟨some 114, .mv (.t 2), some (112, true)⟩,
  ⟨some 115, .mv (.t 16), some (112, true)⟩,
  ⟨some 116, .slstr (.t 114) none (some (.t 115)), some (112, true)⟩,
  ⟨some 117, .bin .neq [] (.t 113) (.t 116), some (112, true)⟩,
  ⟨some 118, .pick (.t 112) (.t 117) (.c (.bool false)), some (110, false)⟩,
  ⟨some 119, .pick (.t 110) (.c (.bool true)) (.t 118), none⟩])
 (.cond (.t 119)
 (.seq (.reg [⟨some 8, .mv (.c (.bool false)), none⟩])
 (.ret))
 (.skip)))
 (.seq (.reg [⟨some 120, .mv (.t 9), none⟩,
  ⟨some 121, .call 12 [(.t 120)], none⟩,
  ⟨some 17, .mv (.t 121), none⟩])
 (.seq (.reg [⟨some 122, .fa 0 (.t 7), none⟩,
  ⟨some 123, .ld none (.t 122), none⟩,
  ⟨some 124, .bin .or [] (.t 123) (.c (.int .u32 1)), none⟩,
  ⟨some 125, .fa 0 (.t 7), none⟩,
  ⟨none, .st 1 (.t 125) (.t 124), none⟩])
 (.seq (.seq (.reg [⟨some 126, .fa 1 (.t 7), none⟩,
  ⟨some 127, .ld none (.t 126), none⟩,
  ⟨some 128, .fa 2 (.t 4), none⟩,
  ⟨some 129, .fa 1 (.t 128), none⟩,
  ⟨some 130, .ld none (.t 129), none⟩,
  ⟨some 131, .bin .eql [] (.t 127) (.t 130), none⟩,
  ⟨some 132, .mv (.t 131), none⟩,
  ⟨some 133, .fa 2 (.t 7), some (132, true)⟩,
  ⟨some 134, .ld none (.t 133), some (132, true)⟩,
  ⟨some 135, .fa 2 (.t 4), some (132, true)⟩,
  ⟨some 136, .fa 2 (.t 135), some (132, true)⟩,
  ⟨some 137, .ld none (.t 136), some (132, true)⟩,
  ⟨some 138, .bin .eql [] (.t 134) (.t 137), some (132, true)⟩,
  ⟨some 139, .pick (.t 132) (.t 138) (.c (.bool false)), none⟩])
 (.cond (.t 139)
 (.reg [⟨some 140, .fa 2 (.t 4), none⟩,
  ⟨some 141, .fa 0 (.t 140), none⟩,
  ⟨some 142, .ld none (.t 141), none⟩,
  ⟨some 143, .bin .add [] (.t 142) (.c (.int .u32 1)), none⟩,
  ⟨some 144, .bin .or [] (.t 143) (.c (.int .u32 1)), none⟩,
  ⟨some 145, .fa 0 (.t 7), none⟩,
  ⟨none, .st 1 (.t 145) (.t 144), none⟩])
 (.skip)))
 (.seq (.reg [⟨some 146, .mv (.t 1), none⟩,
  ⟨some 147, .fa 2 (.t 4), none⟩,
  ⟨some 148, .ld (some 3) (.t 147), none⟩,
  ⟨some 149, .call 14 [(.t 146), (.t 148)], none⟩,
  ⟨some 18, .mv (.t 149), none⟩])
 (.seq (.reg [⟨some 151, .mv (.t 18), none⟩,
  ⟨some 152, .call 15 [(.t 151)], none⟩,
  ⟨some 150, .mv (.t 152), none⟩,
  ⟨some 153, .ex 0 (.t 150), none⟩,
  ⟨some 154, .ex 1 (.t 150), none⟩,
  ⟨some 19, .al (.vals [(.int .u8 0), (.int .u8 0), (.int .u8 0), (.int .u8 0), (.int .i8 0), (.int .i8 0), (.int .u32 0), (.int .u32 0), (.int .u32 0), (.int .u64 0), (.int .u64 0), (.int .u64 0), (.int .u64 0), .nils, (.bool false), (.int .u32 0), (.int .u64 0)]), none⟩,
  ⟨none, .st 17 (.t 19) (.t 153), none⟩,
  ⟨some 20, .mv (.t 154), none⟩])
 (.seq (.reg [⟨some 155, .fa 16 (.t 19), none⟩,
  ⟨some 156, .ld none (.t 155), none⟩,
  ⟨some 157, .bin .add [] (.t 156) (.c (.int .u64 1)), none⟩,
  ⟨some 158, .fa 16 (.t 19), none⟩,
  ⟨none, .st 1 (.t 158) (.t 157), none⟩])
 (.seq (.reg [⟨some 160, .ld (some 17) (.t 19), none⟩,
  ⟨some 161, .call 24 [(.t 160)], none⟩,
  ⟨some 159, .mv (.t 161), none⟩,
  ⟨some 162, .ex 0 (.t 159), none⟩,
  ⟨some 163, .ex 1 (.t 159), none⟩,
  ⟨some 21, .mv (.t 162), none⟩,
  ⟨some 22, .mv (.t 163), none⟩])
 (.seq (.reg [⟨some 165, .mv (.t 9), none⟩,
  ⟨some 166, .mv (.t 21), none⟩,
  ⟨some 167, .bld [(.int .i64 0), (.int .u8 0), (.str ⟨#[]⟩)] [], none⟩,
  ⟨some 168, .call 10 [(.t 165), (.t 166), (.c (.int .i64 0)), (.c (.int .i64 0)), (.t 167)], none⟩,
  ⟨some 164, .mv (.t 168), none⟩,
  ⟨some 169, .ex 0 (.t 164), none⟩,
  ⟨some 170, .ex 1 (.t 164), none⟩,
  ⟨some 23, .mv (.t 169), none⟩,
  ⟨some 24, .mv (.t 170), none⟩])
 (.seq (.reg [⟨some 172, .mv (.t 9), none⟩,
  ⟨some 173, .mv (.t 10), none⟩,
  ⟨some 174, .bld [(.int .i64 0), (.int .u8 0), (.str ⟨#[]⟩)] [], none⟩,
  ⟨some 175, .call 10 [(.t 172), (.t 173), (.c (.int .i64 0)), (.c (.int .i64 0)), (.t 174)], none⟩,
  ⟨some 171, .mv (.t 175), none⟩,
  ⟨some 176, .ex 0 (.t 171), none⟩,
  ⟨some 177, .ex 1 (.t 171), none⟩,
  ⟨some 25, .mv (.t 176), none⟩,
  ⟨some 26, .mv (.t 177), none⟩])
 (.seq (.reg [⟨some 179, .mv (.t 9), none⟩,
  ⟨some 180, .mv (.t 18), none⟩,
  ⟨some 181, .slc none 1 (.t 180) none (some (.c (.int .i64 40))) none, none⟩,
  ⟨some 182, .bld [(.int .i64 0), (.int .u8 0), (.str ⟨#[]⟩)] [], none⟩,
  ⟨some 183, .call 10 [(.t 179), (.t 181), (.c (.int .i64 0)), (.c (.int .i64 0)), (.t 182)], none⟩,
  ⟨some 178, .mv (.t 183), none⟩,
  ⟨some 184, .ex 0 (.t 178), none⟩,
  ⟨some 185, .ex 1 (.t 178), none⟩,
  ⟨some 27, .mv (.t 184), none⟩,
  ⟨some 28, .mv (.t 185), none⟩])
 (.seq (.reg [⟨some 187, .mv (.t 9), none⟩,
  ⟨some 188, .mv (.t 18), none⟩,
  ⟨some 189, .bld [(.int .i64 0), (.int .u8 0), (.str ⟨#[]⟩)] [], none⟩,
  ⟨some 190, .call 10 [(.t 187), (.t 188), (.c (.int .i64 5)), (.c (.int .i64 4)), (.t 189)], none⟩,
  ⟨some 186, .mv (.t 190), none⟩,
  ⟨some 191, .ex 0 (.t 186), none⟩,
  ⟨some 192, .ex 1 (.t 186), none⟩,
  ⟨some 29, .mv (.t 191), none⟩,
  ⟨some 30, .mv (.t 192), none⟩])
 (.seq (.reg [⟨some 194, .mv (.t 9), none⟩,
  ⟨some 195, .mv (.t 18), none⟩,
  ⟨some 196, .bld [(.int .i64 0), (.int .u8 0), (.str ⟨#[]⟩)] [(0, 1, (.c (.int .i64 (-6))))], none⟩,
  ⟨some 197, .call 10 [(.t 194), (.t 195), (.c (.int .i64 5)), (.c (.int .i64 5)), (.t 196)], none⟩,
  ⟨some 193, .mv (.t 197), none⟩,
  ⟨some 198, .ex 0 (.t 193), none⟩,
  ⟨some 199, .ex 1 (.t 193), none⟩,
  ⟨some 31, .mv (.t 198), none⟩,
  ⟨some 32, .mv (.t 199), none⟩])
 (.seq (.reg [⟨some 201, .mv (.t 9), none⟩,
  ⟨some 202, .mv (.t 18), none⟩,
  ⟨some 203, .bld [(.int .i64 0), (.int .u8 0), (.str ⟨#[]⟩)] [(1, 1, (.c (.int .u8 4)))], none⟩,
  ⟨some 204, .call 10 [(.t 201), (.t 202), (.c (.int .i64 5)), (.c (.int .i64 5)), (.t 203)], none⟩,
  ⟨some 200, .mv (.t 204), none⟩,
  ⟨some 205, .ex 0 (.t 200), none⟩,
  ⟨some 206, .ex 1 (.t 200), none⟩,
  ⟨some 33, .mv (.t 205), none⟩,
  ⟨some 34, .mv (.t 206), none⟩])
 (.seq (.reg [⟨some 207, .mv (.t 1), none⟩,
  ⟨some 208, .ld (some 3) (.t 7), none⟩,
  ⟨some 209, .call 14 [(.t 207), (.t 208)], none⟩,
  ⟨some 35, .mv (.t 209), none⟩])
 (.seq (.reg [⟨some 211, .mv (.t 35), none⟩,
  ⟨some 212, .call 15 [(.t 211)], none⟩,
  ⟨some 210, .mv (.t 212), none⟩,
  ⟨some 213, .ex 0 (.t 210), none⟩,
  ⟨some 214, .ex 1 (.t 210), none⟩,
  ⟨some 36, .al (.vals [(.int .u8 0), (.int .u8 0), (.int .u8 0), (.int .u8 0), (.int .i8 0), (.int .i8 0), (.int .u32 0), (.int .u32 0), (.int .u32 0), (.int .u64 0), (.int .u64 0), (.int .u64 0), (.int .u64 0), .nils, (.bool false), (.int .u32 0), (.int .u64 0)]), none⟩,
  ⟨none, .st 17 (.t 36) (.t 213), none⟩,
  ⟨some 37, .mv (.t 214), none⟩])
 (.seq (.reg [⟨some 216, .mv (.t 9), none⟩,
  ⟨some 217, .mv (.t 35), none⟩,
  ⟨some 218, .bld [(.int .i64 0), (.int .u8 0), (.str ⟨#[]⟩)] [], none⟩,
  ⟨some 219, .call 10 [(.t 216), (.t 217), (.c (.int .i64 5)), (.c (.int .i64 5)), (.t 218)], none⟩,
  ⟨some 215, .mv (.t 219), none⟩,
  ⟨some 220, .ex 0 (.t 215), none⟩,
  ⟨some 221, .ex 1 (.t 215), none⟩,
  ⟨some 38, .mv (.t 220), none⟩,
  ⟨some 39, .mv (.t 221), none⟩])
 (.seq (.seq (.reg [⟨some 222, .ld (some 17) (.t 36), none⟩,
  ⟨some 223, .fa 2 (.t 4), none⟩,
  ⟨some 224, .ld (some 3) (.t 223), none⟩,
  ⟨some 225, .call 18 [(.t 222), (.t 224)], none⟩,
  ⟨some 40, .mv (.t 225), none⟩])
 (.seq (.reg [⟨some 226, .mv (.t 39), none⟩,
  ⟨some 227, .bin .eql [] (.t 226) (.c (.int .i64 0)), none⟩,
  ⟨some 228, .mv (.t 40), none⟩,
  ⟨some 229, .bin .neq [1] (.t 227) (.t 228), none⟩,
  ⟨some 230, .mv (.t 229), none⟩,
  ⟨some 231, .mv (.t 40), some (230, false)⟩,
  ⟨some 232, .un .not (.t 231), some (230, false)⟩,
  ⟨some 233, .mv (.t 232), some (230, false)⟩,
  ⟨some 234, .mv (.t 39), some (233, true)⟩,
  ⟨some 235, .bin .neq [] (.t 234) (.c (.int .i64 21)), some (233, true)⟩,
  ⟨some 236, .pick (.t 233) (.t 235) (.c (.bool false)), some (230, false)⟩,
  ⟨some 237, .pick (.t 230) (.c (.bool true)) (.t 236), none⟩])
 (.cond (.t 237)
 (.seq (.reg [⟨some 8, .mv (.c (.bool false)), none⟩])
 (.ret))
 (.seq (.reg [⟨some 238, .mv (.t 40), none⟩])
 (.cond (.t 238)
 (.reg [⟨some 239, .mv (.t 17), none⟩,
  ⟨some 240, .bin .add [] (.t 239) (.c (.int .i64 1)), none⟩,
  ⟨some 17, .mv (.t 240), none⟩])
 (.skip))))))
 (.seq (.reg [⟨some 241, .mv (.t 22), none⟩,
  ⟨some 242, .bin .eql [] (.t 241) (.c (.int .i64 0)), none⟩,
  ⟨some 243, .mv (.t 242), none⟩,
  ⟨some 244, .mv (.t 24), some (243, true)⟩,
  ⟨some 245, .bin .eql [] (.t 244) (.c (.int .i64 21)), some (243, true)⟩,
  ⟨some 246, .pick (.t 243) (.t 245) (.c (.bool false)), none⟩,
  ⟨some 247, .mv (.t 246), none⟩,
  ⟨some 248, .mv (.t 26), some (247, true)⟩,
  ⟨some 249, .bin .eql [] (.t 248) (.c (.int .i64 22)), some (247, true)⟩,
  ⟨some 250, .pick (.t 247) (.t 249) (.c (.bool false)), none⟩,
  ⟨some 251, .mv (.t 250), none⟩,
  ⟨some 252, .mv (.t 28), some (251, true)⟩,
  ⟨some 253, .bin .eql [] (.t 252) (.c (.int .i64 4)), some (251, true)⟩,
  ⟨some 254, .pick (.t 251) (.t 253) (.c (.bool false)), none⟩,
  ⟨some 255, .mv (.t 254), none⟩,
  ⟨some 256, .mv (.t 30), some (255, true)⟩,
  ⟨some 257, .bin .eql [] (.t 256) (.c (.int .i64 1)), some (255, true)⟩,
  ⟨some 258, .pick (.t 255) (.t 257) (.c (.bool false)), none⟩,
  ⟨some 259, .mv (.t 258), none⟩,
  ⟨some 260, .mv (.t 32), some (259, true)⟩,
  ⟨some 261, .bin .eql [] (.t 260) (.c (.int .i64 1)), some (259, true)⟩,
  ⟨some 262, .pick (.t 259) (.t 261) (.c (.bool false)), none⟩,
  ⟨some 263, .mv (.t 262), none⟩,
  ⟨some 264, .mv (.t 34), some (263, true)⟩,
  ⟨some 265, .bin .eql [] (.t 264) (.c (.int .i64 1)), some (263, true)⟩,
  ⟨some 266, .pick (.t 263) (.t 265) (.c (.bool false)), none⟩,
  ⟨some 267, .mv (.t 266), none⟩,
  ⟨some 268, .mv (.t 9), some (267, true)⟩,
  ⟨some 269, .call 12 [(.t 268)], some (267, true)⟩,
  ⟨some 270, .mv (.t 17), some (267, true)⟩,
  ⟨some 271, .bin .eql [] (.t 269) (.t 270), some (267, true)⟩,
  ⟨some 272, .pick (.t 267) (.t 271) (.c (.bool false)), none⟩,
  ⟨some 273, .mv (.t 272), none⟩,
  ⟨some 274, .call 9 [], some (273, true)⟩,
  ⟨some 275, .pick (.t 273) (.t 274) (.c (.bool false)), none⟩,
  ⟨some 8, .mv (.t 275), none⟩])
 (.ret)))))))))))))))))))))))))))),
 [.tmp 8], true⟩
def M7 : MFunc := ⟨.seq (.reg [⟨some 1, .bx none 6 (.t 0), none⟩,
  ⟨some 2, .mv (.c .nilp), none⟩,
  ⟨some 3, .mv (.c (.int .i64 0)), none⟩])
 (.seq (.seq (.reg [⟨some 4, .fa 0 (.t 1), none⟩,
  ⟨some 5, .ld none (.t 4), none⟩,
  ⟨some 6, .bin .lss [] (.t 5) (.c (.int .u8 1)), none⟩,
  ⟨some 7, .mv (.t 6), none⟩,
  ⟨some 8, .fa 0 (.t 1), some (7, false)⟩,
  ⟨some 9, .ld none (.t 8), some (7, false)⟩,
  ⟨some 10, .bin .gtr [] (.t 9) (.c (.int .u8 15)), some (7, false)⟩,
  ⟨some 11, .pick (.t 7) (.c (.bool true)) (.t 10), none⟩,
  ⟨some 12, .mv (.t 11), none⟩,
  ⟨some 13, .fa 5 (.t 1), some (12, false)⟩,
  ⟨some 14, .ld none (.t 13), some (12, false)⟩,
  ⟨some 15, .bin .lss [] (.t 14) (.c (.int .i64 0)), some (12, false)⟩,
  ⟨some 16, .pick (.t 12) (.c (.bool true)) (.t 15), none⟩,
  ⟨some 17, .mv (.t 16), none⟩,
  ⟨some 18, .fa 5 (.t 1), some (17, false)⟩,
  ⟨some 19, .ld none (.t 18), some (17, false)⟩,
  ⟨some 20, .bin .gtr [] (.t 19) (.c (.int .i64 16000000000)), some (17, false)⟩,
  ⟨some 21, .pick (.t 17) (.c (.bool true)) (.t 20), none⟩])
 (.cond (.t 21)
 (.seq (.reg [⟨some 2, .mv (.c .nilp), none⟩,
  ⟨some 3, .mv (.c (.int .i64 1)), none⟩])
 (.ret))
 (.skip)))
 (.seq (.reg [⟨some 22, .ld (some 6) (.t 1), none⟩,
  ⟨some 23, .bld [(.int .u8 0), (.int .u32 0), (.int .u32 0), (.int .u64 0), (.int .u64 0), (.int .i64 0), (.int .i64 0)] [(0, 6, (.t 22))], none⟩,
  ⟨some 24, .bx none 7 (.t 23), none⟩,
  ⟨some 2, .mv (.t 24), none⟩,
  ⟨some 3, .mv (.c (.int .i64 0)), none⟩])
 (.ret))),
 [.tmp 2, .tmp 3], true⟩
def M9 : MFunc := ⟨.seq (.reg [⟨some 0, .mv (.c (.bool false)), none⟩])
 (.seq (.reg [⟨some 10, .bld [(.int .u8 0), (.int .u32 0), (.int .u32 0), (.int .u64 0), (.int .u64 0), (.int .i64 0)] [(0, 1, (.c (.int .u8 1)))], none⟩,
  ⟨some 11, .call 7 [(.t 10)], none⟩,
  ⟨some 9, .mv (.t 11), none⟩,
  ⟨some 12, .ex 0 (.t 9), none⟩,
  ⟨some 13, .ex 1 (.t 9), none⟩,
  ⟨some 1, .mv (.t 12), none⟩,
  ⟨some 2, .mv (.t 13), none⟩])
 (.seq (.seq (.reg [⟨some 14, .mv (.t 2), none⟩,
  ⟨some 15, .bin .neq [] (.t 14) (.c (.int .i64 0)), none⟩])
 (.cond (.t 15)
 (.seq (.reg [⟨some 0, .mv (.c (.bool false)), none⟩])
 (.ret))
 (.skip)))
 (.seq (.reg [⟨some 17, .mv (.t 1), none⟩,
  ⟨some 18, .bld [(.int .u32 0), (.int .u64 0), (.int .u64 0)] [], none⟩,
  ⟨some 19, .call 14 [(.c (.int .u64 7)), (.t 18)], none⟩,
  ⟨some 20, .bld [(.int .i64 0), (.int .u8 0), (.str ⟨#[]⟩)] [], none⟩,
  ⟨some 21, .call 10 [(.t 17), (.t 19), (.c (.int .i64 10000000000)), (.c (.int .i64 10000000000)), (.t 20)], none⟩,
  ⟨some 16, .mv (.t 21), none⟩,
  ⟨some 22, .ex 0 (.t 16), none⟩,
  ⟨some 23, .ex 1 (.t 16), none⟩,
  ⟨some 3, .mv (.t 22), none⟩,
  ⟨some 4, .mv (.t 23), none⟩])
 (.seq (.reg [⟨some 25, .mv (.t 3), none⟩,
  ⟨some 26, .call 15 [(.t 25)], none⟩,
  ⟨some 24, .mv (.t 26), none⟩,
  ⟨some 27, .ex 0 (.t 24), none⟩,
  ⟨some 28, .ex 1 (.t 24), none⟩,
  ⟨some 5, .al (.vals [(.int .u8 0), (.int .u8 0), (.int .u8 0), (.int .u8 0), (.int .i8 0), (.int .i8 0), (.int .u32 0), (.int .u32 0), (.int .u32 0), (.int .u64 0), (.int .u64 0), (.int .u64 0), (.int .u64 0), .nils, (.bool false), (.int .u32 0), (.int .u64 0)]), none⟩,
  ⟨none, .st 17 (.t 5) (.t 27), none⟩,
  ⟨some 6, .mv (.t 28), none⟩])
 (.seq (.reg [⟨some 30, .mv (.t 1), none⟩,
  ⟨some 31, .mv (.t 3), none⟩,
  ⟨some 32, .bld [(.int .i64 0), (.int .u8 0), (.str ⟨#[]⟩)] [], none⟩,
  ⟨some 33, .call 10 [(.t 30), (.t 31), (.c (.int .i64 0)), (.c (.int .i64 0)), (.t 32)], none⟩,
  ⟨some 29, .mv (.t 33), none⟩,
  ⟨some 34, .ex 0 (.t 29), none⟩,
  ⟨some 35, .ex 1 (.t 29), none⟩,
  ⟨some 7, .mv (.t 34), none⟩,
  ⟨some 8, .mv (.t 35), none⟩])
 (.seq (.reg [⟨some 36, .mv (.t 4), none⟩,
  ⟨some 37, .bin .eql [] (.t 36) (.c (.int .i64 0)), none⟩,
  ⟨some 38, .mv (.t 37), none⟩,
  ⟨some 39, .mv (.t 6), some (38, true)⟩,
  ⟨some 40, .bin .eql [] (.t 39) (.c (.int .i64 0)), some (38, true)⟩,
  ⟨some 41, .pick (.t 38) (.t 40) (.c (.bool false)), none⟩,
  ⟨some 42, .mv (.t 41), none⟩,
  ⟨some 43, .fa 10 (.t 5), some (42, true)⟩,
  ⟨some 44, .ld none (.t 43), some (42, true)⟩,
  ⟨some 45, .bin .eql [] (.t 44) (.c (.int .u64 7)), some (42, true)⟩,
  ⟨some 46, .pick (.t 42) (.t 45) (.c (.bool false)), none⟩,
  ⟨some 47, .mv (.t 46), none⟩,
  ⟨some 48, .fa 11 (.t 5), some (47, true)⟩,
  ⟨some 49, .ld none (.t 48), some (47, true)⟩,
  ⟨some 50, .bin .eql [] (.t 49) (.c (.int .u64 42949672960)), some (47, true)⟩,
  ⟨some 51, .pick (.t 47) (.t 50) (.c (.bool false)), none⟩,
  ⟨some 52, .mv (.t 51), none⟩,
  ⟨some 53, .fa 12 (.t 5), some (52, true)⟩,
  ⟨some 54, .ld none (.t 53), some (52, true)⟩,
  ⟨some 55, .bin .eql [] (.t 54) (.c (.int .u64 42949672960)), some (52, true)⟩,
  ⟨some 56, .pick (.t 52) (.t 55) (.c (.bool false)), none⟩,
  ⟨some 57, .mv (.t 56), none⟩,
  ⟨some 58, .mv (.t 8), some (57, true)⟩,
  ⟨some 59, .bin .eql [] (.t 58) (.c (.int .i64 22)), some (57, true)⟩,
  ⟨some 60, .pick (.t 57) (.t 59) (.c (.bool false)), none⟩,
  ⟨some 61, .mv (.t 60), none⟩,
  ⟨some 62, .mv (.t 1), some (61, true)⟩,
  ⟨some 63, .call 12 [(.t 62)], some (61, true)⟩,
  ⟨some 64, .bin .eql [] (.t 63) (.c (.int .i64 1)), some (61, true)⟩,
  ⟨some 65, .pick (.t 61) (.t 64) (.c (.bool false)), none⟩,
  ⟨some 0, .mv (.t 65), none⟩])
 (.ret))))))),
 [.tmp 0], true⟩
def M10 : MFunc := ⟨.seq (.reg [⟨some 9, .bx none 3 (.t 4), none⟩,
  ⟨some 10, .mv (.c .nils), none⟩,
  ⟨some 11, .mv (.c (.int .i64 0)), none⟩])
 (.seq (.seq (.reg [⟨some 17, .mv (.t 0), none⟩,
  ⟨some 18, .call 25 [(.t 17)], none⟩])
 (.cond (.t 18)
 (.seq (.reg [⟨some 10, .mv (.c .nils), none⟩,
  ⟨some 11, .mv (.c (.int .i64 2)), none⟩])
 (.ret))
 (.skip)))
 (.seq (.reg [⟨some 20, .mv (.t 1), none⟩,
  ⟨some 21, .call 15 [(.t 20)], none⟩,
  ⟨some 19, .mv (.t 21), none⟩,
  ⟨some 22, .ex 0 (.t 19), none⟩,
  ⟨some 23, .ex 1 (.t 19), none⟩,
  ⟨some 12, .al (.vals [(.int .u8 0), (.int .u8 0), (.int .u8 0), (.int .u8 0), (.int .i8 0), (.int .i8 0), (.int .u32 0), (.int .u32 0), (.int .u32 0), (.int .u64 0), (.int .u64 0), (.int .u64 0), (.int .u64 0), .nils, (.bool false), (.int .u32 0), (.int .u64 0)]), none⟩,
  ⟨none, .st 17 (.t 12) (.t 22), none⟩,
  ⟨some 13, .mv (.t 23), none⟩])
 (.seq (.block 0 [0, 2, 3, 9, 12]
 (.seq (.reg [⟨some 25, .mv (.t 13), none⟩,
  ⟨some 26, .bin .neq [] (.t 25) (.c (.int .i64 0)), none⟩,
  ⟨some 24, .mv (.t 26), none⟩])
 (.cond (.t 24)
 (.seq (.reg [⟨some 27, .mv (.t 13), none⟩,
  ⟨some 10, .mv (.c .nils), none⟩,
  ⟨some 11, .mv (.t 27), none⟩])
 (.ret))
 (.seq (.reg [⟨some 29, .fa 2 (.t 12), none⟩,
  ⟨some 30, .ld none (.t 29), none⟩,
  ⟨some 31, .bin .neq [] (.t 30) (.c (.int .u8 3)), none⟩,
  ⟨some 28, .mv (.t 31), none⟩])
 (.cond (.t 28)
 (.seq (.reg [⟨some 10, .mv (.c .nils), none⟩,
  ⟨some 11, .mv (.c (.int .i64 22)), none⟩])
 (.ret))
 (.seq (.regd [(0, ⟨some 33, .fa 14 (.t 12), none⟩),
  (1, ⟨some 34, .ld none (.t 33), none⟩),
  (2, ⟨some 35, .mv (.t 34), none⟩),
  (3, ⟨some 36, .ld (some 17) (.t 12), some (35, true)⟩),
  (4, ⟨some 37, .mv (.t 0), some (35, true)⟩),
  (5, ⟨some 38, .nc (.t 37), some (35, true)⟩),
  (6, ⟨some 39, .fa 0 (.t 38), some (35, true)⟩),
  (7, ⟨some 40, .fa 2 (.t 39), some (35, true)⟩),
  (8, ⟨some 41, .ld (some 3) (.t 40), some (35, true)⟩),
  (9, ⟨some 42, .call 18 [(.t 36), (.t 41)], some (35, true)⟩),
  (10, ⟨some 43, .un .not (.t 42), some (35, true)⟩),
  (11, ⟨some 44, .pick (.t 35) (.t 43) (.c (.bool false)), none⟩),
  (12, ⟨some 32, .mv (.t 44), none⟩)] [])
 (.cond (.t 32)
 (.seq (.reg [⟨some 10, .mv (.c .nils), none⟩,
  ⟨some 11, .mv (.c (.int .i64 21)), none⟩])
 (.ret))
 (.seq (.reg [⟨some 46, .ld (some 3) (.t 9), none⟩,
  ⟨some 47, .mv (.t 2), none⟩,
  ⟨some 48, .mv (.t 3), none⟩,
  ⟨some 49, .call 26 [(.t 46), (.t 47), (.t 48)], none⟩,
  ⟨some 50, .un .not (.t 49), none⟩,
  ⟨some 45, .mv (.t 50), none⟩])
 (.cond (.t 45)
 (.seq (.reg [⟨some 10, .mv (.c .nils), none⟩,
  ⟨some 11, .mv (.c (.int .i64 1)), none⟩])
 (.ret))
 (.skip))))))))))
 (.seq (.reg [⟨some 51, .mv (.t 2), none⟩,
  ⟨some 52, .fa 0 (.t 9), none⟩,
  ⟨some 53, .ld none (.t 52), none⟩,
  ⟨some 54, .bin .add [] (.t 51) (.t 53), none⟩,
  ⟨some 55, .call 27 [(.t 54)], none⟩,
  ⟨some 14, .mv (.t 55), none⟩])
 (.seq (.regd [(0, ⟨some 56, .fa 1 (.t 9), none⟩),
  (1, ⟨some 57, .ld none (.t 56), none⟩),
  (2, ⟨some 58, .fa 1 (.t 12), none⟩),
  (3, ⟨some 59, .ld none (.t 58), none⟩),
  (4, ⟨some 60, .mv (.t 0), none⟩),
  (5, ⟨some 61, .nc (.t 60), none⟩),
  (6, ⟨some 62, .fa 0 (.t 61), none⟩),
  (7, ⟨some 63, .fa 0 (.t 62), none⟩),
  (8, ⟨some 64, .ld none (.t 63), none⟩),
  (9, ⟨some 65, .fa 4 (.t 12), none⟩),
  (10, ⟨some 66, .ld none (.t 65), none⟩),
  (11, ⟨some 67, .mv (.t 0), none⟩),
  (12, ⟨some 68, .nc (.t 67), none⟩),
  (13, ⟨some 69, .fa 0 (.t 68), none⟩),
  (14, ⟨some 70, .fa 5 (.t 69), none⟩),
  (15, ⟨some 71, .ld none (.t 70), none⟩),
  (16, ⟨some 72, .call 28 [(.t 71)], none⟩),
  (17, ⟨some 73, .mv (.t 0), none⟩),
  (18, ⟨some 74, .nc (.t 73), none⟩),
  (19, ⟨some 75, .fa 0 (.t 74), none⟩),
  (20, ⟨some 76, .fa 1 (.t 75), none⟩),
  (21, ⟨some 77, .ld none (.t 76), none⟩),
  (22, ⟨some 78, .mv (.t 14), none⟩),
  (23, ⟨some 79, .fa 12 (.t 12), none⟩),
  (24, ⟨some 80, .ld none (.t 79), none⟩),
  (25, ⟨some 81, .mv (.t 14), none⟩),
  (26, ⟨some 82, .mv (.t 3), none⟩),
  (27, ⟨some 83, .fa 0 (.t 9), none⟩),
  (28, ⟨some 84, .ld none (.t 83), none⟩),
  (29, ⟨some 85, .bin .add [] (.t 82) (.t 84), none⟩),
  (30, ⟨some 86, .call 27 [(.t 85)], none⟩),
  (31, ⟨some 87, .bld [(.int .u8 0), (.int .u8 0), (.int .u8 0), (.int .u8 0), (.int .i8 0), (.int .i8 0), (.int .u32 0), (.int .u32 0), (.int .u32 0), (.int .u64 0), (.int .u64 0), (.int .u64 0), (.int .u64 0), .nils, (.bool false), (.int .u32 0), (.int .u64 0)] [(0, 1, (.t 57)), (1, 1, (.t 59)), (2, 1, (.c (.int .u8 4))), (3, 1, (.t 64)), (4, 1, (.t 66)), (5, 1, (.c (.int .i8 (-20)))), (7, 1, (.t 72)), (8, 1, (.t 77)), (9, 1, (.t 78)), (10, 1, (.t 80)), (11, 1, (.t 81)), (12, 1, (.t 86))], none⟩),
  (32, ⟨some 15, .al (.vals [(.int .u8 0), (.int .u8 0), (.int .u8 0), (.int .u8 0), (.int .i8 0), (.int .i8 0), (.int .u32 0), (.int .u32 0), (.int .u32 0), (.int .u64 0), (.int .u64 0), (.int .u64 0), (.int .u64 0), .nils, (.bool false), (.int .u32 0), (.int .u64 0)]), none⟩),
  (33, ⟨none, .st 17 (.t 15) (.t 87), none⟩)] [(1, 16), (1, 30), (3, 16), (3, 30), (8, 16), (8, 30), (10, 16), (10, 30), (21, 16), (21, 30), (24, 16), (24, 30), (28, 16)])
 (.seq (.seq (.reg [⟨some 88, .fa 2 (.t 9), none⟩,
  ⟨some 89, .ld none (.t 88), none⟩,
  ⟨some 90, .bin .neq [] (.t 89) (.c (.str ⟨#[]⟩)), none⟩])
 (.cond (.t 90)
 (.reg [⟨some 91, .fa 2 (.t 9), none⟩,
  ⟨some 92, .ld none (.t 91), none⟩,
  ⟨some 93, .call 29 [(.t 92)], none⟩,
  ⟨some 94, .fa 0 (.t 15), none⟩,
  ⟨none, .st 1 (.t 94) (.c (.int .u8 3)), none⟩,
  ⟨some 95, .fa 3 (.t 15), none⟩,
  ⟨none, .st 1 (.t 95) (.c (.int .u8 0)), none⟩,
  ⟨some 96, .fa 8 (.t 15), none⟩,
  ⟨none, .st 1 (.t 96) (.t 93), none⟩])
 (.skip)))
 (.seq (.seq (.reg [⟨some 97, .fa 14 (.t 12), none⟩,
  ⟨some 98, .ld none (.t 97), none⟩])
 (.cond (.t 98)
 (.regd [(0, ⟨some 100, .ld (some 17) (.t 15), none⟩),
  (1, ⟨some 101, .mv (.t 0), none⟩),
  (2, ⟨some 102, .nc (.t 101), none⟩),
  (3, ⟨some 103, .fa 0 (.t 102), none⟩),
  (4, ⟨some 104, .fa 2 (.t 103), none⟩),
  (5, ⟨some 105, .ld (some 3) (.t 104), none⟩),
  (6, ⟨some 106, .call 21 [(.t 100), (.t 105)], none⟩),
  (7, ⟨some 99, .mv (.t 106), none⟩),
  (8, ⟨some 107, .ex 0 (.t 99), none⟩),
  (9, ⟨some 108, .ex 1 (.t 99), none⟩),
  (10, ⟨none, .st 17 (.t 15) (.t 107), none⟩)] [])
 (.skip)))
 (.seq (.reg [⟨some 110, .ld (some 17) (.t 15), none⟩,
  ⟨some 111, .call 24 [(.t 110)], none⟩,
  ⟨some 109, .mv (.t 111), none⟩,
  ⟨some 112, .ex 0 (.t 109), none⟩,
  ⟨some 113, .ex 1 (.t 109), none⟩,
  ⟨some 16, .mv (.t 112), none⟩,
  ⟨some 13, .mv (.t 113), none⟩])
 (.seq (.seq (.reg [⟨some 114, .mv (.t 13), none⟩,
  ⟨some 115, .bin .eql [] (.t 114) (.c (.int .i64 0)), none⟩])
 (.cond (.t 115)
 (.reg [⟨some 116, .mv (.t 0), none⟩,
  ⟨some 117, .nc (.t 116), none⟩,
  ⟨some 118, .fa 6 (.t 117), none⟩,
  ⟨some 119, .ld none (.t 118), none⟩,
  ⟨some 120, .bin .add [] (.t 119) (.c (.int .i64 1)), none⟩,
  ⟨some 121, .nc (.t 116), none⟩,
  ⟨some 122, .fa 6 (.t 121), none⟩,
  ⟨none, .st 1 (.t 122) (.t 120), none⟩])
 (.skip)))
 (.seq (.reg [⟨some 123, .mv (.t 16), none⟩,
  ⟨some 124, .mv (.t 13), none⟩,
  ⟨some 10, .mv (.t 123), none⟩,
  ⟨some 11, .mv (.t 124), none⟩])
 (.ret))))))))))),
 [.tmp 10, .tmp 11], true⟩
def M12 : MFunc := ⟨.seq (.reg [⟨some 2, .mv (.c (.int .i64 0)), none⟩])
 (.seq (.seq (.reg [⟨some 3, .mv (.t 0), none⟩,
  ⟨some 4, .call 25 [(.t 3)], none⟩])
 (.cond (.t 4)
 (.seq (.reg [⟨some 2, .mv (.c (.int .i64 0)), none⟩])
 (.ret))
 (.skip)))
 (.seq (.reg [⟨some 5, .mv (.t 0), none⟩,
  ⟨some 6, .nc (.t 5), none⟩,
  ⟨some 7, .fa 6 (.t 6), none⟩,
  ⟨some 8, .ld none (.t 7), none⟩,
  ⟨some 2, .mv (.t 8), none⟩])
 (.ret))),
 [.tmp 2], true⟩
def M13 : MFunc := ⟨.seq (.reg [⟨some 2, .al (.vals [(.int .u8 0), (.int .u32 0), (.int .u32 0), (.int .u64 0), (.int .u64 0), (.int .i64 0)]), none⟩])
 (.seq (.seq (.reg [⟨some 3, .mv (.t 0), none⟩,
  ⟨some 4, .call 25 [(.t 3)], none⟩])
 (.cond (.t 4)
 (.seq (.reg [⟨some 5, .bld [(.int .u8 0), (.int .u32 0), (.int .u32 0), (.int .u64 0), (.int .u64 0), (.int .i64 0)] [], none⟩,
  ⟨none, .st 6 (.t 2) (.t 5), none⟩])
 (.ret))
 (.skip)))
 (.seq (.reg [⟨some 6, .mv (.t 0), none⟩,
  ⟨some 7, .nc (.t 6), none⟩,
  ⟨some 8, .fa 0 (.t 7), none⟩,
  ⟨some 9, .ld (some 6) (.t 8), none⟩,
  ⟨none, .st 6 (.t 2) (.t 9), none⟩])
 (.ret))),
 [.cell 2 (some 6)], true⟩
def M14 : MFunc := ⟨.seq (.reg [⟨some 3, .bx none 3 (.t 1), none⟩,
  ⟨some 4, .mv (.c .nils), none⟩])
 (.seq (.reg [⟨some 8, .mv (.t 0), none⟩,
  ⟨some 9, .bld [(.int .u8 0), (.int .u8 0), (.int .u8 0), (.int .u8 0), (.int .i8 0), (.int .i8 0), (.int .u32 0), (.int .u32 0), (.int .u32 0), (.int .u64 0), (.int .u64 0), (.int .u64 0), (.int .u64 0), .nils, (.bool false), (.int .u32 0), (.int .u64 0)] [(1, 1, (.c (.int .u8 4))), (2, 1, (.c (.int .u8 3))), (4, 1, (.c (.int .i8 6))), (12, 1, (.t 8))], none⟩,
  ⟨some 5, .al (.vals [(.int .u8 0), (.int .u8 0), (.int .u8 0), (.int .u8 0), (.int .i8 0), (.int .i8 0), (.int .u32 0), (.int .u32 0), (.int .u32 0), (.int .u64 0), (.int .u64 0), (.int .u64 0), (.int .u64 0), .nils, (.bool false), (.int .u32 0), (.int .u64 0)]), none⟩,
  ⟨none, .st 17 (.t 5) (.t 9), none⟩])
 (.seq (.seq (.reg [⟨some 10, .fa 0 (.t 3), none⟩,
  ⟨some 11, .ld none (.t 10), none⟩,
  ⟨some 12, .bin .neq [] (.t 11) (.c (.int .u32 0)), none⟩])
 (.cond (.t 12)
 (.reg [⟨some 14, .ld (some 17) (.t 5), none⟩,
  ⟨some 15, .ld (some 3) (.t 3), none⟩,
  ⟨some 16, .call 21 [(.t 14), (.t 15)], none⟩,
  ⟨some 13, .mv (.t 16), none⟩,
  ⟨some 17, .ex 0 (.t 13), none⟩,
  ⟨some 18, .ex 1 (.t 13), none⟩,
  ⟨none, .st 17 (.t 5) (.t 17), none⟩])
 (.skip)))
 (.seq (.reg [⟨some 20, .ld (some 17) (.t 5), none⟩,
  ⟨some 21, .call 24 [(.t 20)], none⟩,
  ⟨some 19, .mv (.t 21), none⟩,
  ⟨some 22, .ex 0 (.t 19), none⟩,
  ⟨some 23, .ex 1 (.t 19), none⟩,
  ⟨some 6, .mv (.t 22), none⟩,
  ⟨some 7, .mv (.t 23), none⟩])
 (.seq (.reg [⟨some 24, .mv (.t 6), none⟩,
  ⟨some 4, .mv (.t 24), none⟩])
 (.ret))))),
 [.tmp 4], true⟩
def M15 : MFunc := ⟨.seq (.reg [⟨some 2, .al (.vals [(.int .u8 0), (.int .u8 0), (.int .u8 0), (.int .u8 0), (.int .i8 0), (.int .i8 0), (.int .u32 0), (.int .u32 0), (.int .u32 0), (.int .u64 0), (.int .u64 0), (.int .u64 0), (.int .u64 0), .nils, (.bool false), (.int .u32 0), (.int .u64 0)]), none⟩,
  ⟨some 3, .mv (.c (.int .i64 0)), none⟩])
 (.seq (.seq (.reg [⟨some 11, .mv (.t 0), none⟩,
  ⟨some 12, .len none (.t 11), none⟩,
  ⟨some 13, .bin .gtr [] (.t 12) (.c (.int .i64 512)), none⟩])
 (.cond (.t 13)
 (.seq (.reg [⟨some 14, .bld [(.int .u8 0), (.int .u8 0), (.int .u8 0), (.int .u8 0), (.int .i8 0), (.int .i8 0), (.int .u32 0), (.int .u32 0), (.int .u32 0), (.int .u64 0), (.int .u64 0), (.int .u64 0), (.int .u64 0), .nils, (.bool false), (.int .u32 0), (.int .u64 0)] [], none⟩,
  ⟨none, .st 17 (.t 2) (.t 14), none⟩,
  ⟨some 3, .mv (.c (.int .i64 3)), none⟩])
 (.ret))
 (.skip)))
 (.seq (.reg [⟨some 16, .mv (.t 0), none⟩,
  ⟨some 17, .call 37 [(.t 16)], none⟩,
  ⟨some 15, .mv (.t 17), none⟩,
  ⟨some 18, .ex 0 (.t 15), none⟩,
  ⟨some 19, .ex 1 (.t 15), none⟩,
  ⟨some 20, .ex 2 (.t 15), none⟩,
  ⟨some 4, .al (.vals [(.int .u8 0), (.int .u8 0), (.int .u8 0), (.int .u8 0), (.int .i8 0), (.int .i8 0), (.int .u32 0), (.int .u32 0), (.int .u32 0), (.int .u64 0), (.int .u64 0), (.int .u64 0), (.int .u64 0), .nils, (.bool false), (.int .u32 0), (.int .u64 0)]), none⟩,
  ⟨none, .st 17 (.t 4) (.t 18), none⟩,
  ⟨some 5, .mv (.t 19), none⟩,
  ⟨some 6, .mv (.t 20), none⟩])
 (.seq (.seq (.reg [⟨some 21, .mv (.t 6), none⟩,
  ⟨some 22, .bin .neq [] (.t 21) (.c (.int .i64 0)), none⟩])
 (.cond (.t 22)
 (.seq (.reg [⟨some 23, .bld [(.int .u8 0), (.int .u8 0), (.int .u8 0), (.int .u8 0), (.int .i8 0), (.int .i8 0), (.int .u32 0), (.int .u32 0), (.int .u32 0), (.int .u64 0), (.int .u64 0), (.int .u64 0), (.int .u64 0), .nils, (.bool false), (.int .u32 0), (.int .u64 0)] [], none⟩,
  ⟨some 24, .mv (.t 6), none⟩,
  ⟨none, .st 17 (.t 2) (.t 23), none⟩,
  ⟨some 3, .mv (.t 24), none⟩])
 (.ret))
 (.skip)))
 (.seq (.reg [⟨some 7, .mv (.c .nils), none⟩])
 (.seq (.seq (.reg [⟨some 26, .mv (.t 5), none⟩,
  ⟨some 27, .call 38 [(.t 26)], none⟩,
  ⟨some 25, .mv (.t 27), none⟩,
  ⟨some 28, .ex 0 (.t 25), none⟩,
  ⟨some 29, .ex 1 (.t 25), none⟩,
  ⟨some 30, .ex 2 (.t 25), none⟩,
  ⟨some 31, .fa 13 (.t 4), none⟩,
  ⟨none, .st 1 (.t 31) (.t 28), none⟩,
  ⟨some 7, .mv (.t 29), none⟩,
  ⟨some 6, .mv (.t 30), none⟩])
 (.seq (.reg [⟨some 32, .mv (.t 6), none⟩,
  ⟨some 33, .bin .neq [] (.t 32) (.c (.int .i64 0)), none⟩])
 (.cond (.t 33)
 (.seq (.reg [⟨some 34, .bld [(.int .u8 0), (.int .u8 0), (.int .u8 0), (.int .u8 0), (.int .i8 0), (.int .i8 0), (.int .u32 0), (.int .u32 0), (.int .u32 0), (.int .u64 0), (.int .u64 0), (.int .u64 0), (.int .u64 0), .nils, (.bool false), (.int .u32 0), (.int .u64 0)] [], none⟩,
  ⟨some 35, .mv (.t 6), none⟩,
  ⟨none, .st 17 (.t 2) (.t 34), none⟩,
  ⟨some 3, .mv (.t 35), none⟩])
 (.ret))
 (.skip))))
 (.seq (.seq (.reg [⟨some 36, .mv (.t 7), none⟩,
  ⟨some 37, .len none (.t 36), none⟩,
  ⟨some 38, .bin .eql [] (.t 37) (.c (.int .i64 0)), none⟩])
 (.cond (.t 38)
 (.seq (.reg [⟨some 39, .ld (some 17) (.t 4), none⟩,
  ⟨none, .st 17 (.t 2) (.t 39), none⟩,
  ⟨some 3, .mv (.c (.int .i64 0)), none⟩])
 (.ret))
 (.skip)))
 (.seq (.reg [⟨some 41, .call 40 [], none⟩,
  ⟨some 42, .mv (.t 7), none⟩,
  ⟨some 43, .call 39 [(.t 41), (.t 42)], none⟩,
  ⟨some 40, .mv (.t 43), none⟩,
  ⟨some 44, .ex 0 (.t 40), none⟩,
  ⟨some 45, .ex 1 (.t 40), none⟩,
  ⟨some 46, .ex 2 (.t 40), none⟩,
  ⟨some 8, .mv (.t 44), none⟩,
  ⟨some 9, .mv (.t 45), none⟩,
  ⟨some 10, .mv (.t 46), none⟩])
 (.seq (.regd [(0, ⟨some 47, .mv (.t 8), none⟩),
  (1, ⟨some 48, .ia none 1 (.t 47) (.c (.int .i64 0)), none⟩),
  (2, ⟨some 49, .ld none (.t 48), none⟩),
  (3, ⟨some 50, .ci .u32 (.t 49), none⟩),
  (4, ⟨some 51, .mv (.t 8), none⟩),
  (5, ⟨some 52, .ia none 1 (.t 51) (.c (.int .i64 1)), none⟩),
  (6, ⟨some 53, .ld none (.t 52), none⟩),
  (7, ⟨some 54, .fa 14 (.t 4), none⟩),
  (8, ⟨none, .st 1 (.t 54) (.c (.bool true)), none⟩),
  (9, ⟨some 55, .fa 15 (.t 4), none⟩),
  (10, ⟨none, .st 1 (.t 55) (.t 50), none⟩),
  (11, ⟨some 56, .fa 16 (.t 4), none⟩),
  (12, ⟨none, .st 1 (.t 56) (.t 53), none⟩)] [(2, 8), (6, 8), (6, 10)])
 (.seq (.seq (.reg [⟨some 57, .fa 15 (.t 4), none⟩,
  ⟨some 58, .ld none (.t 57), none⟩,
  ⟨some 59, .bin .eql [] (.t 58) (.c (.int .u32 0)), none⟩])
 (.cond (.t 59)
 (.seq (.reg [⟨some 60, .bld [(.int .u8 0), (.int .u8 0), (.int .u8 0), (.int .u8 0), (.int .i8 0), (.int .i8 0), (.int .u32 0), (.int .u32 0), (.int .u32 0), (.int .u64 0), (.int .u64 0), (.int .u64 0), (.int .u64 0), .nils, (.bool false), (.int .u32 0), (.int .u64 0)] [], none⟩,
  ⟨none, .st 17 (.t 2) (.t 60), none⟩,
  ⟨some 3, .mv (.c (.int .i64 5)), none⟩])
 (.ret))
 (.skip)))
 (.seq (.reg [⟨some 61, .ld (some 17) (.t 4), none⟩,
  ⟨none, .st 17 (.t 2) (.t 61), none⟩,
  ⟨some 3, .mv (.c (.int .i64 0)), none⟩])
 (.ret))))))))))),
 [.cell 2 (some 17), .tmp 3], true⟩
def M16 : MFunc := ⟨.seq (.reg [⟨some 1, .bx none 17 (.t 0), none⟩,
  ⟨some 2, .mv (.c (.int .i64 0)), none⟩])
 (.seq (.seq (.reg [⟨some 5, .ld (some 10) (.g 0), none⟩,
  ⟨some 6, .mv (.c (.int .i64 0)), none⟩])
 (.block 0 []
 (.loop [1, 5, 6]
 (.seq (.reg [⟨some 7, .bin .lss [] (.t 6) (.c (.int .i64 5)), none⟩])
 (.seq (.cond (.t 7)
 (.skip)
 (.exit 0))
 (.seq (.block 1 [1, 5, 6]
 (.seq (.reg [⟨some 8, .ixa 5 2 (some 2) (.t 5) (.t 6), none⟩,
  ⟨some 4, .al (.vals [(.int .i64 0), .nilf]), none⟩,
  ⟨none, .st 2 (.t 4) (.t 8), none⟩])
 (.seq (.reg [⟨some 9, .fa 1 (.t 4), none⟩,
  ⟨some 10, .ld none (.t 9), none⟩,
  ⟨some 11, .ld (some 17) (.t 1), none⟩,
  ⟨some 12, .calld (.t 10) [(.t 11)], none⟩])
 (.cond (.t 12)
 (.seq (.reg [⟨some 13, .fa 0 (.t 4), none⟩,
  ⟨some 14, .ld none (.t 13), none⟩,
  ⟨some 2, .mv (.t 14), none⟩])
 (.ret))
 (.skip)))))
 (.reg [⟨some 15, .bin .add [] (.t 6) (.c (.int .i64 1)), none⟩,
  ⟨some 6, .mv (.t 15), none⟩])))))))
 (.seq (.reg [⟨some 2, .mv (.c (.int .i64 0)), none⟩])
 (.ret))),
 [.tmp 2], true⟩
def M17 : MFunc := ⟨.seq (.reg [⟨some 1, .bx none 6 (.t 0), none⟩,
  ⟨some 2, .mv (.c .nilp), none⟩,
  ⟨some 3, .al (.vals [(.int .u8 0), (.int .u32 0), (.int .u32 0), (.int .u64 0), (.int .u64 0), (.int .i64 0)]), none⟩])
 (.seq (.reg [⟨some 6, .fa 0 (.t 1), none⟩,
  ⟨some 7, .ld none (.t 6), none⟩,
  ⟨some 8, .bin .rem [] (.t 7) (.c (.int .u8 15)), none⟩,
  ⟨some 9, .bin .add [] (.c (.int .u8 1)) (.t 8), none⟩,
  ⟨some 10, .fa 0 (.t 1), none⟩,
  ⟨none, .st 1 (.t 10) (.t 9), none⟩])
 (.seq (.reg [⟨some 11, .fa 5 (.t 1), none⟩,
  ⟨some 12, .ld none (.t 11), none⟩,
  ⟨some 13, .ci .u64 (.t 12), none⟩,
  ⟨some 14, .bin .rem [] (.t 13) (.c (.int .u64 15999980000)), none⟩,
  ⟨some 15, .ci .i64 (.t 14), none⟩,
  ⟨some 16, .fa 5 (.t 1), none⟩,
  ⟨none, .st 1 (.t 16) (.t 15), none⟩])
 (.seq (.reg [⟨some 17, .fa 2 (.t 1), none⟩,
  ⟨some 18, .fa 0 (.t 17), none⟩,
  ⟨some 19, .ld none (.t 18), none⟩,
  ⟨some 20, .bin .or [] (.t 19) (.c (.int .u32 1)), none⟩,
  ⟨some 21, .fa 2 (.t 1), none⟩,
  ⟨some 22, .fa 0 (.t 21), none⟩,
  ⟨none, .st 1 (.t 22) (.t 20), none⟩])
 (.seq (.reg [⟨some 24, .ld (some 6) (.t 1), none⟩,
  ⟨some 25, .call 7 [(.t 24)], none⟩,
  ⟨some 23, .mv (.t 25), none⟩,
  ⟨some 26, .ex 0 (.t 23), none⟩,
  ⟨some 27, .ex 1 (.t 23), none⟩,
  ⟨some 4, .mv (.t 26), none⟩,
  ⟨some 5, .mv (.t 27), none⟩])
 (.seq (.regd [(0, ⟨some 28, .mv (.t 4), none⟩),
  (1, ⟨some 29, .ld (some 6) (.t 1), none⟩),
  (2, ⟨some 2, .mv (.t 28), none⟩),
  (3, ⟨none, .st 6 (.t 3) (.t 29), none⟩)] [])
 (.ret)))))),
 [.tmp 2, .cell 3 (some 6)], true⟩
def M18 : MFunc := ⟨.seq (.reg [⟨some 2, .bx none 17 (.t 0), none⟩,
  ⟨some 3, .bx none 3 (.t 1), none⟩,
  ⟨some 4, .mv (.c (.bool false)), none⟩])
 (.seq (.reg [⟨some 8, .ld (some 17) (.t 2), none⟩,
  ⟨some 9, .call 24 [(.t 8)], none⟩,
  ⟨some 7, .mv (.t 9), none⟩,
  ⟨some 10, .ex 0 (.t 7), none⟩,
  ⟨some 11, .ex 1 (.t 7), none⟩,
  ⟨some 5, .mv (.t 10), none⟩,
  ⟨some 6, .mv (.t 11), none⟩])
 (.seq (.regd [(0, ⟨some 12, .mv (.t 6), none⟩),
  (1, ⟨some 13, .bin .eql [] (.t 12) (.c (.int .i64 0)), none⟩),
  (2, ⟨some 14, .mv (.t 13), none⟩),
  (3, ⟨some 15, .fa 14 (.t 2), some (14, true)⟩),
  (4, ⟨some 16, .ld none (.t 15), some (14, true)⟩),
  (5, ⟨some 17, .pick (.t 14) (.t 16) (.c (.bool false)), none⟩),
  (6, ⟨some 18, .mv (.t 17), none⟩),
  (7, ⟨some 19, .fa 15 (.t 2), some (18, true)⟩),
  (8, ⟨some 20, .ld none (.t 19), some (18, true)⟩),
  (9, ⟨some 21, .fa 0 (.t 3), some (18, true)⟩),
  (10, ⟨some 22, .ld none (.t 21), some (18, true)⟩),
  (11, ⟨some 23, .bin .eql [] (.t 20) (.t 22), some (18, true)⟩),
  (12, ⟨some 24, .pick (.t 18) (.t 23) (.c (.bool false)), none⟩),
  (13, ⟨some 25, .mv (.t 24), none⟩),
  (14, ⟨some 26, .ld (some 3) (.t 3), some (25, true)⟩),
  (15, ⟨some 27, .fa 16 (.t 2), some (25, true)⟩),
  (16, ⟨some 28, .ld none (.t 27), some (25, true)⟩),
  (17, ⟨some 29, .ld (some 17) (.t 2), some (25, true)⟩),
  (18, ⟨some 30, .call 42 [(.t 29)], some (25, true)⟩),
  (19, ⟨some 31, .bsl (.vals [.nils]) 1 1 [(0, 1, (.t 30))], some (25, true)⟩),
  (20, ⟨some 32, .call 41 [(.t 26), (.t 28), (.t 31)], some (25, true)⟩),
  (21, ⟨some 33, .pick (.t 25) (.t 32) (.c (.bool false)), none⟩),
  (22, ⟨some 4, .mv (.t 33), none⟩)] [(14, 18), (16, 18)])
 (.ret))),
 [.tmp 4], true⟩
def M19 : MFunc := ⟨.seq (.reg [⟨some 3, .bx (some .i64) 1 (.t 1), none⟩,
  ⟨some 4, .mv (.c (.int .i64 0)), none⟩])
 (.seq (.reg [⟨some 11, .ld none (.t 3), none⟩,
  ⟨some 12, .mnx true [(.t 11), (.c (.int .i64 0))], none⟩,
  ⟨some 13, .mnx false [(.t 12), (.c (.int .i64 4611686018427387904))], none⟩,
  ⟨none, .st 1 (.t 3) (.t 13), none⟩])
 (.seq (.reg [⟨some 14, .mv (.t 0), none⟩,
  ⟨some 15, .bin .and [] (.t 14) (.c (.int .u64 4294967295)), none⟩,
  ⟨some 5, .mv (.t 15), none⟩])
 (.seq (.reg [⟨some 16, .mv (.t 0), none⟩,
  ⟨some 17, .bin .shr [] (.t 16) (.c (.int .u64 32)), none⟩,
  ⟨some 18, .ci .i64 (.t 17), none⟩,
  ⟨some 19, .bin .mul [] (.t 18) (.c (.int .i64 1000000000)), none⟩,
  ⟨some 20, .mv (.t 5), none⟩,
  ⟨some 21, .bin .mul [] (.t 20) (.c (.int .u64 1000000000)), none⟩,
  ⟨some 22, .bin .shr [] (.t 21) (.c (.int .u64 32)), none⟩,
  ⟨some 23, .ci .i64 (.t 22), none⟩,
  ⟨some 24, .bin .add [] (.t 19) (.t 23), none⟩,
  ⟨some 6, .mv (.t 24), none⟩])
 (.seq (.reg [⟨some 25, .mf 43 [(.t 3)], none⟩,
  ⟨some 7, .mv (.t 25), none⟩])
 (.seq (.reg [⟨some 26, .mv (.t 6), none⟩,
  ⟨some 27, .bin .sub [] (.t 26) (.c (.int .i64 4294967296000000000)), none⟩,
  ⟨some 8, .mv (.t 27), none⟩])
 (.seq (.seq (.reg [⟨some 28, .mv (.t 6), none⟩,
  ⟨some 29, .mv (.t 6), none⟩,
  ⟨some 30, .bin .add [] (.t 29) (.c (.int .i64 4294967296000000000)), none⟩,
  ⟨some 31, .bld [(.int .i64 0), (.int .i64 0)] [(0, 1, (.t 28)), (1, 1, (.t 30))], none⟩,
  ⟨some 32, .mv (.c (.int .i64 0)), none⟩])
 (.block 0 [8]
 (.loop [7, 8, 31, 32]
 (.seq (.reg [⟨some 33, .bin .lss [] (.t 32) (.c (.int .i64 2)), none⟩])
 (.seq (.cond (.t 33)
 (.skip)
 (.exit 0))
 (.seq (.block 1 [7, 8, 31, 32]
 (.seq (.reg [⟨some 34, .ixa 2 1 none (.t 31) (.t 32), none⟩,
  ⟨some 10, .mv (.t 34), none⟩])
 (.seq (.reg [⟨some 35, .mv (.t 7), none⟩,
  ⟨some 36, .mv (.t 10), none⟩,
  ⟨some 37, .calld (.t 35) [(.t 36)], none⟩,
  ⟨some 38, .mv (.t 7), none⟩,
  ⟨some 39, .mv (.t 8), none⟩,
  ⟨some 40, .calld (.t 38) [(.t 39)], none⟩,
  ⟨some 41, .bin .lss [] (.t 37) (.t 40), none⟩])
 (.cond (.t 41)
 (.reg [⟨some 42, .mv (.t 10), none⟩,
  ⟨some 8, .mv (.t 42), none⟩])
 (.skip)))))
 (.reg [⟨some 43, .bin .add [] (.t 32) (.c (.int .i64 1)), none⟩,
  ⟨some 32, .mv (.t 43), none⟩])))))))
 (.seq (.reg [⟨some 44, .mv (.t 8), none⟩,
  ⟨some 4, .mv (.t 44), none⟩])
 (.ret)))))))),
 [.tmp 4], true⟩
def M20 : MFunc := ⟨.seq (.reg [⟨some 1, .bx none 17 (.t 0), none⟩,
  ⟨some 2, .mv (.c (.int .i64 0)), none⟩])
 (.seq (.regd [(0, ⟨some 3, .fa 6 (.t 1), none⟩),
  (1, ⟨some 4, .ld none (.t 3), none⟩),
  (2, ⟨some 5, .call 44 [(.t 4)], none⟩),
  (3, ⟨some 6, .bin .add [] (.t 5) (.c (.int .i64 1)), none⟩),
  (4, ⟨some 7, .bin .quo [] (.t 6) (.c (.int .i64 2)), none⟩),
  (5, ⟨some 8, .fa 7 (.t 1), none⟩),
  (6, ⟨some 9, .ld none (.t 8), none⟩),
  (7, ⟨some 10, .call 44 [(.t 9)], none⟩),
  (8, ⟨some 11, .bin .add [] (.t 7) (.t 10), none⟩),
  (9, ⟨some 2, .mv (.t 11), none⟩)] [(6, 2)])
 (.ret)),
 [.tmp 2], true⟩
def M21 : MFunc := ⟨.seq (.reg [⟨some 2, .bx none 17 (.t 0), none⟩,
  ⟨some 3, .bx none 3 (.t 1), none⟩,
  ⟨some 4, .al (.vals [(.int .u8 0), (.int .u8 0), (.int .u8 0), (.int .u8 0), (.int .i8 0), (.int .i8 0), (.int .u32 0), (.int .u32 0), (.int .u32 0), (.int .u64 0), (.int .u64 0), (.int .u64 0), (.int .u64 0), .nils, (.bool false), (.int .u32 0), (.int .u64 0)]), none⟩,
  ⟨some 5, .mv (.c (.int .i64 0)), none⟩])
 (.seq (.regd [(0, ⟨some 9, .fa 0 (.t 3), none⟩),
  (1, ⟨some 10, .ld none (.t 9), none⟩),
  (2, ⟨some 11, .fa 14 (.t 2), none⟩),
  (3, ⟨none, .st 1 (.t 11) (.c (.bool true)), none⟩),
  (4, ⟨some 12, .fa 15 (.t 2), none⟩),
  (5, ⟨none, .st 1 (.t 12) (.t 10), none⟩),
  (6, ⟨some 13, .fa 16 (.t 2), none⟩),
  (7, ⟨none, .st 1 (.t 13) (.c (.int .u64 0)), none⟩)] [(1, 3)])
 (.seq (.seq (.reg [⟨some 15, .ld (some 17) (.t 2), none⟩,
  ⟨some 16, .call 24 [(.t 15)], none⟩,
  ⟨some 14, .mv (.t 16), none⟩,
  ⟨some 17, .ex 0 (.t 14), none⟩,
  ⟨some 18, .ex 1 (.t 14), none⟩,
  ⟨some 6, .mv (.t 17), none⟩,
  ⟨some 7, .mv (.t 18), none⟩])
 (.seq (.reg [⟨some 19, .mv (.t 7), none⟩,
  ⟨some 20, .bin .neq [] (.t 19) (.c (.int .i64 0)), none⟩])
 (.cond (.t 20)
 (.seq (.reg [⟨some 21, .bld [(.int .u8 0), (.int .u8 0), (.int .u8 0), (.int .u8 0), (.int .i8 0), (.int .i8 0), (.int .u32 0), (.int .u32 0), (.int .u32 0), (.int .u64 0), (.int .u64 0), (.int .u64 0), (.int .u64 0), .nils, (.bool false), (.int .u32 0), (.int .u64 0)] [], none⟩,
  ⟨some 22, .mv (.t 7), none⟩,
  ⟨none, .st 17 (.t 4) (.t 21), none⟩,
  ⟨some 5, .mv (.t 22), none⟩])
 (.ret))
 (.skip))))
 (.seq (.reg [⟨some 23, .ld (some 17) (.t 2), none⟩,
  ⟨some 24, .call 42 [(.t 23)], none⟩,
  ⟨some 8, .mv (.t 24), none⟩])
 (.seq (.reg [⟨some 25, .ld (some 3) (.t 3), none⟩,
  ⟨some 26, .mv (.t 8), none⟩,
  ⟨some 27, .bsl (.vals [.nils]) 1 1 [(0, 1, (.t 26))], none⟩,
  ⟨some 28, .call 45 [(.t 25), (.t 27)], none⟩,
  ⟨some 29, .fa 16 (.t 2), none⟩,
  ⟨none, .st 1 (.t 29) (.t 28), none⟩])
 (.seq (.reg [⟨some 30, .ld (some 17) (.t 2), none⟩,
  ⟨none, .st 17 (.t 4) (.t 30), none⟩,
  ⟨some 5, .mv (.c (.int .i64 0)), none⟩])
 (.ret)))))),
 [.cell 4 (some 17), .tmp 5], true⟩
def M22 : MFunc := ⟨.seq (.reg [⟨some 2, .bx none 17 (.t 0), none⟩,
  ⟨some 3, .bx none 17 (.t 1), none⟩,
  ⟨some 4, .mv (.c (.bool false)), none⟩])
 (.seq (.reg [⟨some 5, .ld (some 17) (.t 2), none⟩,
  ⟨some 6, .ld (some 17) (.t 3), none⟩,
  ⟨some 7, .call 46 [(.t 5), (.t 6)], none⟩,
  ⟨some 8, .mv (.t 7), none⟩,
  ⟨some 9, .fa 13 (.t 2), some (8, true)⟩,
  ⟨some 10, .ld none (.t 9), some (8, true)⟩,
  ⟨some 11, .fa 13 (.t 3), some (8, true)⟩,
  ⟨some 12, .ld none (.t 11), some (8, true)⟩,
  ⟨some 13, .call 47 [(.t 10), (.t 12)], some (8, true)⟩,
  ⟨some 14, .pick (.t 8) (.t 13) (.c (.bool false)), none⟩,
  ⟨some 15, .mv (.t 14), none⟩,
  ⟨some 16, .fa 14 (.t 2), some (15, true)⟩,
  ⟨some 17, .ld none (.t 16), some (15, true)⟩,
  ⟨some 18, .fa 14 (.t 3), some (15, true)⟩,
  ⟨some 19, .ld none (.t 18), some (15, true)⟩,
  ⟨some 20, .bin .eql [1] (.t 17) (.t 19), some (15, true)⟩,
  ⟨some 21, .pick (.t 15) (.t 20) (.c (.bool false)), none⟩,
  ⟨some 22, .mv (.t 21), none⟩,
  ⟨some 23, .fa 15 (.t 2), some (22, true)⟩,
  ⟨some 24, .ld none (.t 23), some (22, true)⟩,
  ⟨some 25, .fa 15 (.t 3), some (22, true)⟩,
  ⟨some 26, .ld none (.t 25), some (22, true)⟩,
  ⟨some 27, .bin .eql [] (.t 24) (.t 26), some (22, true)⟩,
  ⟨some 28, .pick (.t 22) (.t 27) (.c (.bool false)), none⟩,
  ⟨some 29, .mv (.t 28), none⟩,
  ⟨some 30, .fa 16 (.t 2), some (29, true)⟩,
  ⟨some 31, .ld none (.t 30), some (29, true)⟩,
  ⟨some 32, .fa 16 (.t 3), some (29, true)⟩,
  ⟨some 33, .ld none (.t 32), some (29, true)⟩,
  ⟨some 34, .bin .eql [] (.t 31) (.t 33), some (29, true)⟩,
  ⟨some 35, .pick (.t 29) (.t 34) (.c (.bool false)), none⟩,
  ⟨some 4, .mv (.t 35), none⟩])
 (.ret)),
 [.tmp 4], true⟩
def M23 : MFunc := ⟨.seq (.reg [⟨some 1, .bx none 17 (.t 0), none⟩,
  ⟨some 2, .mv (.c (.str ⟨#[]⟩)), none⟩,
  ⟨some 3, .mv (.c (.bool false)), none⟩])
 (.seq (.seq (.reg [⟨some 5, .fa 3 (.t 1), none⟩,
  ⟨some 6, .ld none (.t 5), none⟩,
  ⟨some 7, .bin .neq [] (.t 6) (.c (.int .u8 0)), none⟩])
 (.cond (.t 7)
 (.seq (.reg [⟨some 2, .mv (.c (.str ⟨#[]⟩)), none⟩,
  ⟨some 3, .mv (.c (.bool false)), none⟩])
 (.ret))
 (.skip)))
 (.seq (.reg [⟨some 8, .fa 8 (.t 1), none⟩,
  ⟨some 9, .ld none (.t 8), none⟩,
  ⟨some 4, .mv (.t 9), none⟩])
 (.seq (.reg [⟨some 10, .mv (.t 4), none⟩,
  ⟨some 11, .bin .shr [] (.t 10) (.c (.int .u64 24)), none⟩,
  ⟨some 12, .ci .u8 (.t 11), none⟩,
  ⟨some 13, .mv (.t 4), none⟩,
  ⟨some 14, .bin .shr [] (.t 13) (.c (.int .u64 16)), none⟩,
  ⟨some 15, .ci .u8 (.t 14), none⟩,
  ⟨some 16, .mv (.t 4), none⟩,
  ⟨some 17, .bin .shr [] (.t 16) (.c (.int .u64 8)), none⟩,
  ⟨some 18, .ci .u8 (.t 17), none⟩,
  ⟨some 19, .mv (.t 4), none⟩,
  ⟨some 20, .ci .u8 (.t 19), none⟩,
  ⟨some 21, .bsl (.ints .u8 [0]) 4 1 [(0, 1, (.t 12)), (1, 1, (.t 15)), (2, 1, (.t 18)), (3, 1, (.t 20))], none⟩,
  ⟨some 22, .cstr (.t 21), none⟩,
  ⟨some 23, .call 48 [(.t 22), (.c (.str ⟨#[0]⟩))], none⟩,
  ⟨some 2, .mv (.t 23), none⟩,
  ⟨some 3, .mv (.c (.bool true)), none⟩])
 (.ret)))),
 [.tmp 2, .tmp 3], true⟩
def M24 : MFunc := ⟨.seq (.reg [⟨some 1, .bx none 17 (.t 0), none⟩,
  ⟨some 2, .mv (.c .nils), none⟩,
  ⟨some 3, .mv (.c (.int .i64 0)), none⟩])
 (.seq (.seq (.reg [⟨some 7, .ld (some 17) (.t 1), none⟩,
  ⟨some 8, .call 49 [(.t 7)], none⟩,
  ⟨some 9, .un .not (.t 8), none⟩])
 (.cond (.t 9)
 (.seq (.reg [⟨some 2, .mv (.c .nils), none⟩,
  ⟨some 3, .mv (.c (.int .i64 1)), none⟩])
 (.ret))
 (.skip)))
 (.seq (.reg [⟨some 10, .ld (some 17) (.t 1), none⟩,
  ⟨some 11, .call 42 [(.t 10)], none⟩,
  ⟨some 4, .mv (.t 11), none⟩])
 (.seq (.seq (.reg [⟨some 12, .fa 14 (.t 1), none⟩,
  ⟨some 13, .ld none (.t 12), none⟩])
 (.cond (.t 13)
 (.seq (.regd [(0, ⟨some 15, .call 40 [], none⟩),
  (1, ⟨some 16, .fa 15 (.t 1), none⟩),
  (2, ⟨some 17, .ld none (.t 16), none⟩),
  (3, ⟨some 18, .ci .u64 (.t 17), none⟩),
  (4, ⟨some 19, .fa 16 (.t 1), none⟩),
  (5, ⟨some 20, .ld none (.t 19), none⟩),
  (6, ⟨some 21, .bsl (.ints .u64 [0]) 2 1 [(0, 1, (.t 18)), (1, 1, (.t 20))], none⟩),
  (7, ⟨some 22, .call 50 [(.t 15), (.t 21)], none⟩),
  (8, ⟨some 14, .mv (.t 22), none⟩),
  (9, ⟨some 23, .ex 0 (.t 14), none⟩),
  (10, ⟨some 24, .ex 1 (.t 14), none⟩),
  (11, ⟨some 5, .mv (.t 23), none⟩),
  (12, ⟨some 6, .mv (.t 24), none⟩)] [(2, 0), (5, 0)])
 (.reg [⟨some 25, .mv (.t 4), none⟩,
  ⟨some 26, .mv (.t 5), none⟩,
  ⟨some 27, .app (.ints .u8 [0]) 1 (.t 25) (.t 26), none⟩,
  ⟨some 4, .mv (.t 27), none⟩]))
 (.skip)))
 (.seq (.seq (.reg [⟨some 28, .mv (.t 4), none⟩,
  ⟨some 29, .len none (.t 28), none⟩,
  ⟨some 30, .bin .gtr [] (.t 29) (.c (.int .i64 512)), none⟩])
 (.cond (.t 30)
 (.seq (.reg [⟨some 2, .mv (.c .nils), none⟩,
  ⟨some 3, .mv (.c (.int .i64 3)), none⟩])
 (.ret))
 (.skip)))
 (.seq (.reg [⟨some 31, .mv (.t 4), none⟩,
  ⟨some 2, .mv (.t 31), none⟩,
  ⟨some 3, .mv (.c (.int .i64 0)), none⟩])
 (.ret)))))),
 [.tmp 2, .tmp 3], true⟩
def M25 : MFunc := ⟨.seq (.reg [⟨some 2, .mv (.c (.bool false)), none⟩])
 (.seq (.reg [⟨some 3, .mv (.t 0), none⟩,
  ⟨some 4, .bin .eql [2] (.t 3) (.c .nilp), none⟩,
  ⟨some 5, .mv (.t 4), none⟩,
  ⟨some 6, .mv (.t 0), some (5, false)⟩,
  ⟨some 7, .nc (.t 6), some (5, false)⟩,
  ⟨some 8, .fa 0 (.t 7), some (5, false)⟩,
  ⟨some 9, .fa 0 (.t 8), some (5, false)⟩,
  ⟨some 10, .ld none (.t 9), some (5, false)⟩,
  ⟨some 11, .bin .eql [] (.t 10) (.c (.int .u8 0)), some (5, false)⟩,
  ⟨some 12, .pick (.t 5) (.c (.bool true)) (.t 11), none⟩,
  ⟨some 2, .mv (.t 12), none⟩])
 (.ret)),
 [.tmp 2], true⟩
def M26 : MFunc := ⟨.seq (.reg [⟨some 3, .bx none 3 (.t 0), none⟩,
  ⟨some 6, .mv (.c (.bool false)), none⟩])
 (.seq (.reg [⟨some 7, .mv (.f 51), none⟩])
 (.seq (.reg [⟨some 9, .fa 0 (.t 3), none⟩,
  ⟨some 10, .ld none (.t 9), none⟩,
  ⟨some 11, .bin .geq [] (.t 10) (.c (.int .i64 (-4611686018427387904))), none⟩,
  ⟨some 12, .mv (.t 11), none⟩,
  ⟨some 13, .fa 0 (.t 3), some (12, true)⟩,
  ⟨some 14, .ld none (.t 13), some (12, true)⟩,
  ⟨some 15, .bin .leq [] (.t 14) (.c (.int .i64 4611686018427387904)), some (12, true)⟩,
  ⟨some 16, .pick (.t 12) (.t 15) (.c (.bool false)), none⟩,
  ⟨some 8, .mv (.t 16), none⟩])
 (.seq (.reg [⟨some 17, .mv (.t 7), none⟩,
  ⟨some 18, .mv (.t 1), none⟩,
  ⟨some 19, .calld (.t 17) [(.t 18)], none⟩,
  ⟨some 20, .mv (.t 19), none⟩,
  ⟨some 21, .mv (.t 7), some (20, true)⟩,
  ⟨some 22, .mv (.t 2), some (20, true)⟩,
  ⟨some 23, .calld (.t 21) [(.t 22)], some (20, true)⟩,
  ⟨some 24, .pick (.t 20) (.t 23) (.c (.bool false)), none⟩,
  ⟨some 25, .mv (.t 24), none⟩,
  ⟨some 26, .mv (.t 8), some (25, true)⟩,
  ⟨some 27, .pick (.t 25) (.t 26) (.c (.bool false)), none⟩,
  ⟨some 28, .mv (.t 27), none⟩,
  ⟨some 29, .mv (.t 7), some (28, true)⟩,
  ⟨some 30, .mv (.t 1), some (28, true)⟩,
  ⟨some 31, .fa 0 (.t 3), some (28, true)⟩,
  ⟨some 32, .ld none (.t 31), some (28, true)⟩,
  ⟨some 33, .bin .add [] (.t 30) (.t 32), some (28, true)⟩,
  ⟨some 34, .calld (.t 29) [(.t 33)], some (28, true)⟩,
  ⟨some 35, .pick (.t 28) (.t 34) (.c (.bool false)), none⟩,
  ⟨some 36, .mv (.t 35), none⟩,
  ⟨some 37, .mv (.t 7), some (36, true)⟩,
  ⟨some 38, .mv (.t 2), some (36, true)⟩,
  ⟨some 39, .fa 0 (.t 3), some (36, true)⟩,
  ⟨some 40, .ld none (.t 39), some (36, true)⟩,
  ⟨some 41, .bin .add [] (.t 38) (.t 40), some (36, true)⟩,
  ⟨some 42, .calld (.t 37) [(.t 41)], some (36, true)⟩,
  ⟨some 43, .pick (.t 36) (.t 42) (.c (.bool false)), none⟩,
  ⟨some 44, .mv (.t 43), none⟩,
  ⟨some 45, .mv (.t 2), some (44, true)⟩,
  ⟨some 46, .mv (.t 1), some (44, true)⟩,
  ⟨some 47, .bin .geq [] (.t 45) (.t 46), some (44, true)⟩,
  ⟨some 48, .pick (.t 44) (.t 47) (.c (.bool false)), none⟩,
  ⟨some 49, .mv (.t 48), none⟩,
  ⟨some 50, .fa 1 (.t 3), some (49, true)⟩,
  ⟨some 51, .ld none (.t 50), some (49, true)⟩,
  ⟨some 52, .bin .leq [] (.t 51) (.c (.int .u8 3)), some (49, true)⟩,
  ⟨some 53, .pick (.t 49) (.t 52) (.c (.bool false)), none⟩,
  ⟨some 54, .mv (.t 53), none⟩,
  ⟨some 55, .fa 2 (.t 3), some (54, true)⟩,
  ⟨some 56, .ld none (.t 55), some (54, true)⟩,
  ⟨some 57, .lens (.t 56), some (54, true)⟩,
  ⟨some 58, .bin .leq [] (.t 57) (.c (.int .i64 4)), some (54, true)⟩,
  ⟨some 59, .pick (.t 54) (.t 58) (.c (.bool false)), none⟩,
  ⟨some 6, .mv (.t 59), none⟩])
 (.ret)))),
 [.tmp 6], true⟩
def M27 : MFunc := ⟨.seq (.reg [⟨some 2, .mv (.c (.int .u64 0)), none⟩])
 (.seq (.reg [⟨some 7, .mv (.t 0), none⟩,
  ⟨some 8, .call 52 [(.t 7)], none⟩,
  ⟨some 6, .mv (.t 8), none⟩,
  ⟨some 9, .ex 0 (.t 6), none⟩,
  ⟨some 10, .ex 1 (.t 6), none⟩,
  ⟨some 11, .ex 2 (.t 6), none⟩,
  ⟨some 3, .mv (.t 9), none⟩,
  ⟨some 4, .mv (.t 10), none⟩,
  ⟨some 5, .mv (.t 11), none⟩])
 (.seq (.reg [⟨some 12, .mv (.t 4), none⟩,
  ⟨some 13, .ci .u64 (.t 12), none⟩,
  ⟨some 14, .bin .shl [] (.t 13) (.c (.int .u64 32)), none⟩,
  ⟨some 15, .mv (.t 5), none⟩,
  ⟨some 16, .bin .shl [] (.t 15) (.c (.int .u64 32)), none⟩,
  ⟨some 17, .bin .add [] (.t 16) (.c (.int .u64 1000000000)), none⟩,
  ⟨some 18, .bin .sub [] (.t 17) (.c (.int .u64 1)), none⟩,
  ⟨some 19, .bin .quo [] (.t 18) (.c (.int .u64 1000000000)), none⟩,
  ⟨some 20, .bin .or [] (.t 14) (.t 19), none⟩,
  ⟨some 2, .mv (.t 20), none⟩])
 (.ret))),
 [.tmp 2], true⟩
def M28 : MFunc := ⟨.seq (.reg [⟨some 2, .mv (.c (.int .u32 0)), none⟩])
 (.seq (.seq (.reg [⟨some 7, .mv (.t 0), none⟩,
  ⟨some 8, .bin .leq [] (.t 7) (.c (.int .i64 0)), none⟩])
 (.cond (.t 8)
 (.seq (.reg [⟨some 2, .mv (.c (.int .u32 0)), none⟩])
 (.ret))
 (.skip)))
 (.seq (.reg [⟨some 10, .mv (.t 0), none⟩,
  ⟨some 11, .bin .sub [] (.t 10) (.c (.int .i64 1)), none⟩,
  ⟨some 12, .ci .u64 (.t 11), none⟩,
  ⟨some 13, .call 53 [(.t 12), (.c (.int .u64 65536))], none⟩,
  ⟨some 9, .mv (.t 13), none⟩,
  ⟨some 14, .ex 0 (.t 9), none⟩,
  ⟨some 15, .ex 1 (.t 9), none⟩,
  ⟨some 3, .mv (.t 14), none⟩,
  ⟨some 4, .mv (.t 15), none⟩])
 (.seq (.seq (.reg [⟨some 16, .mv (.t 3), none⟩,
  ⟨some 17, .bin .geq [] (.t 16) (.c (.int .u64 1000000000)), none⟩])
 (.cond (.t 17)
 (.seq (.reg [⟨some 2, .mv (.c (.int .u32 4294967295)), none⟩])
 (.ret))
 (.skip)))
 (.seq (.reg [⟨some 19, .mv (.t 3), none⟩,
  ⟨some 20, .mv (.t 4), none⟩,
  ⟨some 21, .call 54 [(.t 19), (.t 20), (.c (.int .u64 1000000000))], none⟩,
  ⟨some 18, .mv (.t 21), none⟩,
  ⟨some 22, .ex 0 (.t 18), none⟩,
  ⟨some 23, .ex 1 (.t 18), none⟩,
  ⟨some 5, .mv (.t 22), none⟩,
  ⟨some 6, .mv (.t 23), none⟩])
 (.seq (.reg [⟨some 24, .mv (.t 5), none⟩,
  ⟨some 25, .bin .add [] (.t 24) (.c (.int .u64 1)), none⟩,
  ⟨some 26, .mnx false [(.t 25), (.c (.int .u64 4294967295))], none⟩,
  ⟨some 27, .ci .u32 (.t 26), none⟩,
  ⟨some 2, .mv (.t 27), none⟩])
 (.ret)))))),
 [.tmp 2], true⟩
def M29 : MFunc := ⟨.seq (.reg [⟨some 2, .mv (.c (.int .u32 0)), none⟩])
 (.seq (.reg [⟨some 3, .al (.ints .u8 [0, 0, 0, 0]), none⟩])
 (.seq (.reg [⟨some 4, .slc (some 4) 1 (.t 3) none none none, none⟩,
  ⟨some 5, .mv (.t 0), none⟩,
  ⟨some 6, .cpy 1 (.t 4) (.t 5), none⟩])
 (.seq (.reg [⟨some 7, .ia (some 4) 1 (.t 3) (.c (.int .i64 0)), none⟩,
  ⟨some 8, .ld none (.t 7), none⟩,
  ⟨some 9, .ci .u32 (.t 8), none⟩,
  ⟨some 10, .bin .shl [] (.t 9) (.c (.int .u64 24)), none⟩,
  ⟨some 11, .ia (some 4) 1 (.t 3) (.c (.int .i64 1)), none⟩,
  ⟨some 12, .ld none (.t 11), none⟩,
  ⟨some 13, .ci .u32 (.t 12), none⟩,
  ⟨some 14, .bin .shl [] (.t 13) (.c (.int .u64 16)), none⟩,
  ⟨some 15, .bin .or [] (.t 10) (.t 14), none⟩,
  ⟨some 16, .ia (some 4) 1 (.t 3) (.c (.int .i64 2)), none⟩,
  ⟨some 17, .ld none (.t 16), none⟩,
  ⟨some 18, .ci .u32 (.t 17), none⟩,
  ⟨some 19, .bin .shl [] (.t 18) (.c (.int .u64 8)), none⟩,
  ⟨some 20, .bin .or [] (.t 15) (.t 19), none⟩,
  ⟨some 21, .ia (some 4) 1 (.t 3) (.c (.int .i64 3)), none⟩,
  ⟨some 22, .ld none (.t 21), none⟩,
  ⟨some 23, .ci .u32 (.t 22), none⟩,
  ⟨some 24, .bin .or [] (.t 20) (.t 23), none⟩,
  ⟨some 2, .mv (.t 24), none⟩])
 (.ret)))),
 [.tmp 2], true⟩
def M37 : MFunc := ⟨.seq (.reg [⟨some 2, .al (.vals [(.int .u8 0), (.int .u8 0), (.int .u8 0), (.int .u8 0), (.int .i8 0), (.int .i8 0), (.int .u32 0), (.int .u32 0), (.int .u32 0), (.int .u64 0), (.int .u64 0), (.int .u64 0), (.int .u64 0), .nils, (.bool false), (.int .u32 0), (.int .u64 0)]), none⟩,
  ⟨some 3, .mv (.c .nils), none⟩,
  ⟨some 4, .mv (.c (.int .i64 0)), none⟩])
 (.seq (.seq (.reg [⟨some 9, .mv (.t 0), none⟩,
  ⟨some 10, .len none (.t 9), none⟩,
  ⟨some 11, .bin .lss [] (.t 10) (.c (.int .i64 48)), none⟩])
 (.cond (.t 11)
 (.seq (.reg [⟨some 12, .bld [(.int .u8 0), (.int .u8 0), (.int .u8 0), (.int .u8 0), (.int .i8 0), (.int .i8 0), (.int .u32 0), (.int .u32 0), (.int .u32 0), (.int .u64 0), (.int .u64 0), (.int .u64 0), (.int .u64 0), .nils, (.bool false), (.int .u32 0), (.int .u64 0)] [], none⟩,
  ⟨none, .st 17 (.t 2) (.t 12), none⟩,
  ⟨some 3, .mv (.c .nils), none⟩,
  ⟨some 4, .mv (.c (.int .i64 4)), none⟩])
 (.ret))
 (.skip)))
 (.seq (.reg [⟨some 14, .slc (some 11) 1 (.g 1) none none none, none⟩,
  ⟨some 15, .mv (.t 0), none⟩,
  ⟨some 16, .call 39 [(.t 14), (.t 15)], none⟩,
  ⟨some 13, .mv (.t 16), none⟩,
  ⟨some 17, .ex 0 (.t 13), none⟩,
  ⟨some 18, .ex 1 (.t 13), none⟩,
  ⟨some 19, .ex 2 (.t 13), none⟩,
  ⟨some 5, .mv (.t 17), none⟩,
  ⟨some 6, .mv (.t 18), none⟩,
  ⟨some 7, .mv (.t 19), none⟩])
 (.seq (.seq (.reg [⟨some 20, .mv (.t 7), none⟩,
  ⟨some 21, .bin .neq [] (.t 20) (.c (.int .i64 0)), none⟩])
 (.cond (.t 21)
 (.seq (.reg [⟨some 22, .bld [(.int .u8 0), (.int .u8 0), (.int .u8 0), (.int .u8 0), (.int .i8 0), (.int .i8 0), (.int .u32 0), (.int .u32 0), (.int .u32 0), (.int .u64 0), (.int .u64 0), (.int .u64 0), (.int .u64 0), .nils, (.bool false), (.int .u32 0), (.int .u64 0)] [], none⟩,
  ⟨some 23, .mv (.t 7), none⟩,
  ⟨none, .st 17 (.t 2) (.t 22), none⟩,
  ⟨some 3, .mv (.c .nils), none⟩,
  ⟨some 4, .mv (.t 23), none⟩])
 (.ret))
 (.skip)))
 (.seq (.regd [(0, ⟨some 24, .mv (.t 5), none⟩),
  (1, ⟨some 25, .ia none 1 (.t 24) (.c (.int .i64 0)), none⟩),
  (2, ⟨some 26, .ld none (.t 25), none⟩),
  (3, ⟨some 27, .bin .shr [] (.t 26) (.c (.int .u64 6)), none⟩),
  (4, ⟨some 28, .ci .u8 (.t 27), none⟩),
  (5, ⟨some 29, .mv (.t 5), none⟩),
  (6, ⟨some 30, .ia none 1 (.t 29) (.c (.int .i64 0)), none⟩),
  (7, ⟨some 31, .ld none (.t 30), none⟩),
  (8, ⟨some 32, .bin .shr [] (.t 31) (.c (.int .u64 3)), none⟩),
  (9, ⟨some 33, .bin .and [] (.t 32) (.c (.int .u64 7)), none⟩),
  (10, ⟨some 34, .ci .u8 (.t 33), none⟩),
  (11, ⟨some 35, .mv (.t 5), none⟩),
  (12, ⟨some 36, .ia none 1 (.t 35) (.c (.int .i64 0)), none⟩),
  (13, ⟨some 37, .ld none (.t 36), none⟩),
  (14, ⟨some 38, .bin .and [] (.t 37) (.c (.int .u64 7)), none⟩),
  (15, ⟨some 39, .ci .u8 (.t 38), none⟩),
  (16, ⟨some 40, .mv (.t 5), none⟩),
  (17, ⟨some 41, .ia none 1 (.t 40) (.c (.int .i64 1)), none⟩),
  (18, ⟨some 42, .ld none (.t 41), none⟩),
  (19, ⟨some 43, .ci .u8 (.t 42), none⟩),
  (20, ⟨some 44, .mv (.t 5), none⟩),
  (21, ⟨some 45, .ia none 1 (.t 44) (.c (.int .i64 2)), none⟩),
  (22, ⟨some 46, .ld none (.t 45), none⟩),
  (23, ⟨some 47, .ci .i8 (.t 46), none⟩),
  (24, ⟨some 48, .mv (.t 5), none⟩),
  (25, ⟨some 49, .ia none 1 (.t 48) (.c (.int .i64 3)), none⟩),
  (26, ⟨some 50, .ld none (.t 49), none⟩),
  (27, ⟨some 51, .ci .i8 (.t 50), none⟩),
  (28, ⟨some 52, .mv (.t 5), none⟩),
  (29, ⟨some 53, .ia none 1 (.t 52) (.c (.int .i64 4)), none⟩),
  (30, ⟨some 54, .ld none (.t 53), none⟩),
  (31, ⟨some 55, .ci .u32 (.t 54), none⟩),
  (32, ⟨some 56, .mv (.t 5), none⟩),
  (33, ⟨some 57, .ia none 1 (.t 56) (.c (.int .i64 5)), none⟩),
  (34, ⟨some 58, .ld none (.t 57), none⟩),
  (35, ⟨some 59, .ci .u32 (.t 58), none⟩),
  (36, ⟨some 60, .mv (.t 5), none⟩),
  (37, ⟨some 61, .ia none 1 (.t 60) (.c (.int .i64 6)), none⟩),
  (38, ⟨some 62, .ld none (.t 61), none⟩),
  (39, ⟨some 63, .ci .u32 (.t 62), none⟩),
  (40, ⟨some 64, .mv (.t 5), none⟩),
  (41, ⟨some 65, .ia none 1 (.t 64) (.c (.int .i64 7)), none⟩),
  (42, ⟨some 66, .ld none (.t 65), none⟩),
  (43, ⟨some 67, .mv (.t 5), none⟩),
  (44, ⟨some 68, .ia none 1 (.t 67) (.c (.int .i64 8)), none⟩),
  (45, ⟨some 69, .ld none (.t 68), none⟩),
  (46, ⟨some 70, .mv (.t 5), none⟩),
  (47, ⟨some 71, .ia none 1 (.t 70) (.c (.int .i64 9)), none⟩),
  (48, ⟨some 72, .ld none (.t 71), none⟩),
  (49, ⟨some 73, .mv (.t 5), none⟩),
  (50, ⟨some 74, .ia none 1 (.t 73) (.c (.int .i64 10)), none⟩),
  (51, ⟨some 75, .ld none (.t 74), none⟩),
  (52, ⟨some 76, .bld [(.int .u8 0), (.int .u8 0), (.int .u8 0), (.int .u8 0), (.int .i8 0), (.int .i8 0), (.int .u32 0), (.int .u32 0), (.int .u32 0), (.int .u64 0), (.int .u64 0), (.int .u64 0), (.int .u64 0), .nils, (.bool false), (.int .u32 0), (.int .u64 0)] [(0, 1, (.t 28)), (1, 1, (.t 34)), (2, 1, (.t 39)), (3, 1, (.t 43)), (4, 1, (.t 47)), (5, 1, (.t 51)), (6, 1, (.t 55)), (7, 1, (.t 59)), (8, 1, (.t 63)), (9, 1, (.t 66)), (10, 1, (.t 69)), (11, 1, (.t 72)), (12, 1, (.t 75))], none⟩),
  (53, ⟨some 8, .al (.vals [(.int .u8 0), (.int .u8 0), (.int .u8 0), (.int .u8 0), (.int .i8 0), (.int .i8 0), (.int .u32 0), (.int .u32 0), (.int .u32 0), (.int .u64 0), (.int .u64 0), (.int .u64 0), (.int .u64 0), .nils, (.bool false), (.int .u32 0), (.int .u64 0)]), none⟩),
  (54, ⟨none, .st 17 (.t 8) (.t 76), none⟩)] [])
 (.seq (.seq (.reg [⟨some 77, .ld (some 17) (.t 8), none⟩,
  ⟨some 78, .call 65 [(.t 77)], none⟩,
  ⟨some 79, .un .not (.t 78), none⟩])
 (.cond (.t 79)
 (.seq (.reg [⟨some 80, .bld [(.int .u8 0), (.int .u8 0), (.int .u8 0), (.int .u8 0), (.int .i8 0), (.int .i8 0), (.int .u32 0), (.int .u32 0), (.int .u32 0), (.int .u64 0), (.int .u64 0), (.int .u64 0), (.int .u64 0), .nils, (.bool false), (.int .u32 0), (.int .u64 0)] [], none⟩,
  ⟨none, .st 17 (.t 2) (.t 80), none⟩,
  ⟨some 3, .mv (.c .nils), none⟩,
  ⟨some 4, .mv (.c (.int .i64 5)), none⟩])
 (.ret))
 (.skip)))
 (.seq (.regd [(0, ⟨some 81, .ld (some 17) (.t 8), none⟩),
  (1, ⟨some 82, .mv (.t 6), none⟩),
  (2, ⟨some 83, .call 66 [(.t 82)], none⟩),
  (3, ⟨none, .st 17 (.t 2) (.t 81), none⟩),
  (4, ⟨some 3, .mv (.t 83), none⟩),
  (5, ⟨some 4, .mv (.c (.int .i64 0)), none⟩)] [(0, 2)])
 (.ret))))))),
 [.cell 2 (some 17), .tmp 3, .tmp 4], true⟩
def M38 : MFunc := ⟨.seq (.reg [⟨some 2, .mv (.c .nils), none⟩,
  ⟨some 3, .mv (.c .nils), none⟩,
  ⟨some 4, .mv (.c (.int .i64 0)), none⟩])
 (.scope [0, 5, 8] 0
 (.seq (.skip)
 (.seq (.seq (.reg [⟨some 9, .mv (.t 0), none⟩,
  ⟨some 10, .len none (.t 9), none⟩])
 (.block 0 [0, 5, 8]
 (.seq (.seq (.reg [⟨some 12, .bin .eql [] (.t 10) (.c (.int .i64 0)), none⟩,
  ⟨some 11, .mv (.t 12), none⟩])
 (.cond (.t 11)
 (.skip)
 (.reg [⟨some 13, .bin .eql [] (.t 10) (.c (.int .i64 12)), none⟩,
  ⟨some 11, .mv (.t 13), none⟩])))
 (.cond (.t 11)
 (.seq (.reg [⟨some 14, .mv (.t 5), none⟩,
  ⟨some 15, .mv (.t 0), none⟩,
  ⟨some 16, .call 67 [(.t 15)], none⟩,
  ⟨some 2, .mv (.t 14), none⟩,
  ⟨some 3, .mv (.t 16), none⟩,
  ⟨some 4, .mv (.c (.int .i64 0)), none⟩])
 (.ret))
 (.skip)))))
 (.seq (.seq (.reg [⟨some 17, .mv (.t 0), none⟩,
  ⟨some 18, .len none (.t 17), none⟩,
  ⟨some 19, .bin .lss [] (.t 18) (.c (.int .i64 16)), none⟩])
 (.cond (.t 19)
 (.goto 1)
 (.skip)))
 (.seq (.reg [⟨some 21, .bsl (.ints .i64 [0]) 2 1 [(0, 1, (.c (.int .i64 2))), (1, 1, (.c (.int .i64 2)))], none⟩,
  ⟨some 22, .mv (.t 0), none⟩,
  ⟨some 23, .call 39 [(.t 21), (.t 22)], none⟩,
  ⟨some 20, .mv (.t 23), none⟩,
  ⟨some 24, .ex 0 (.t 20), none⟩,
  ⟨some 25, .ex 1 (.t 20), none⟩,
  ⟨some 26, .ex 2 (.t 20), none⟩,
  ⟨some 6, .mv (.t 24), none⟩,
  ⟨some 0, .mv (.t 25), none⟩])
 (.seq (.reg [⟨some 27, .mv (.t 6), none⟩,
  ⟨some 28, .ia none 1 (.t 27) (.c (.int .i64 1)), none⟩,
  ⟨some 29, .ld none (.t 28), none⟩,
  ⟨some 30, .ci .i64 (.t 29), none⟩,
  ⟨some 31, .bin .sub [] (.t 30) (.c (.int .i64 4)), none⟩,
  ⟨some 7, .mv (.t 31), none⟩])
 (.seq (.block 1 [0, 5, 6, 7, 8]
 (.seq (.reg [⟨some 33, .mv (.t 7), none⟩,
  ⟨some 34, .call 68 [(.t 33)], none⟩,
  ⟨some 35, .un .not (.t 34), none⟩,
  ⟨some 32, .mv (.t 35), none⟩])
 (.cond (.t 32)
 (.seq (.reg [⟨some 8, .mv (.c (.int .i64 5)), none⟩])
 (.goto 1))
 (.seq (.reg [⟨some 37, .mv (.t 7), none⟩,
  ⟨some 38, .mv (.t 0), none⟩,
  ⟨some 39, .len none (.t 38), none⟩,
  ⟨some 40, .bin .gtr [] (.t 37) (.t 39), none⟩,
  ⟨some 36, .mv (.t 40), none⟩])
 (.cond (.t 36)
 (.goto 1)
 (.seq (.reg [⟨some 42, .mv (.t 5), none⟩,
  ⟨some 43, .len none (.t 42), none⟩,
  ⟨some 44, .bin .eql [] (.t 43) (.c (.int .i64 8)), none⟩,
  ⟨some 41, .mv (.t 44), none⟩])
 (.cond (.t 41)
 (.seq (.reg [⟨some 8, .mv (.c (.int .i64 7)), none⟩])
 (.goto 1))
 (.skip))))))))
 (.seq (.regd [(0, ⟨some 45, .mv (.t 5), none⟩),
  (1, ⟨some 46, .mv (.t 6), none⟩),
  (2, ⟨some 47, .ia none 1 (.t 46) (.c (.int .i64 0)), none⟩),
  (3, ⟨some 48, .ld none (.t 47), none⟩),
  (4, ⟨some 49, .ci .u16 (.t 48), none⟩),
  (5, ⟨some 50, .mv (.t 0), none⟩),
  (6, ⟨some 51, .mv (.t 7), none⟩),
  (7, ⟨some 52, .slc none 1 (.t 50) none (some (.t 51)) none, none⟩),
  (8, ⟨some 53, .call 67 [(.t 52)], none⟩),
  (9, ⟨some 54, .bld [(.int .u16 0), .nils] [(0, 1, (.t 49)), (1, 1, (.t 53))], none⟩),
  (10, ⟨some 55, .bsl (.vals [(.int .u16 0), .nils]) 1 2 [(0, 2, (.t 54))], none⟩),
  (11, ⟨some 56, .app (.vals [(.int .u16 0), .nils]) 32 (.t 45) (.t 55), none⟩),
  (12, ⟨some 5, .mv (.t 56), none⟩)] [(3, 8)])
 (.seq (.reg [⟨some 57, .mv (.t 0), none⟩,
  ⟨some 58, .mv (.t 7), none⟩,
  ⟨some 59, .slc none 1 (.t 57) (some (.t 58)) none none, none⟩,
  ⟨some 0, .mv (.t 59), none⟩])
 (.seq (.goto 0)
 (.seq (.skip)
 (.seq (.reg [⟨some 60, .mv (.t 8), none⟩,
  ⟨some 2, .mv (.c .nils), none⟩,
  ⟨some 3, .mv (.c .nils), none⟩,
  ⟨some 4, .mv (.t 60), none⟩])
 (.ret)))))))))))) 1
 (.seq (.skip)
 (.seq (.reg [⟨some 60, .mv (.t 8), none⟩,
  ⟨some 2, .mv (.c .nils), none⟩,
  ⟨some 3, .mv (.c .nils), none⟩,
  ⟨some 4, .mv (.t 60), none⟩])
 (.ret)))
 (.seq (.reg [⟨some 5, .mv (.c .nils), none⟩])
 (.seq (.reg [⟨some 6, .mv (.c .nils), none⟩])
 (.seq (.reg [⟨some 7, .mv (.c (.int .i64 0)), none⟩])
 (.seq (.reg [⟨some 8, .mv (.c (.int .i64 4)), none⟩])
 (.seq (.skip)
 (.seq (.seq (.reg [⟨some 9, .mv (.t 0), none⟩,
  ⟨some 10, .len none (.t 9), none⟩])
 (.block 0 [0, 5, 8]
 (.seq (.seq (.reg [⟨some 12, .bin .eql [] (.t 10) (.c (.int .i64 0)), none⟩,
  ⟨some 11, .mv (.t 12), none⟩])
 (.cond (.t 11)
 (.skip)
 (.reg [⟨some 13, .bin .eql [] (.t 10) (.c (.int .i64 12)), none⟩,
  ⟨some 11, .mv (.t 13), none⟩])))
 (.cond (.t 11)
 (.seq (.reg [⟨some 14, .mv (.t 5), none⟩,
  ⟨some 15, .mv (.t 0), none⟩,
  ⟨some 16, .call 67 [(.t 15)], none⟩,
  ⟨some 2, .mv (.t 14), none⟩,
  ⟨some 3, .mv (.t 16), none⟩,
  ⟨some 4, .mv (.c (.int .i64 0)), none⟩])
 (.ret))
 (.skip)))))
 (.seq (.seq (.reg [⟨some 17, .mv (.t 0), none⟩,
  ⟨some 18, .len none (.t 17), none⟩,
  ⟨some 19, .bin .lss [] (.t 18) (.c (.int .i64 16)), none⟩])
 (.cond (.t 19)
 (.goto 1)
 (.skip)))
 (.seq (.reg [⟨some 21, .bsl (.ints .i64 [0]) 2 1 [(0, 1, (.c (.int .i64 2))), (1, 1, (.c (.int .i64 2)))], none⟩,
  ⟨some 22, .mv (.t 0), none⟩,
  ⟨some 23, .call 39 [(.t 21), (.t 22)], none⟩,
  ⟨some 20, .mv (.t 23), none⟩,
  ⟨some 24, .ex 0 (.t 20), none⟩,
  ⟨some 25, .ex 1 (.t 20), none⟩,
  ⟨some 26, .ex 2 (.t 20), none⟩,
  ⟨some 6, .mv (.t 24), none⟩,
  ⟨some 0, .mv (.t 25), none⟩])
 (.seq (.reg [⟨some 27, .mv (.t 6), none⟩,
  ⟨some 28, .ia none 1 (.t 27) (.c (.int .i64 1)), none⟩,
  ⟨some 29, .ld none (.t 28), none⟩,
  ⟨some 30, .ci .i64 (.t 29), none⟩,
  ⟨some 31, .bin .sub [] (.t 30) (.c (.int .i64 4)), none⟩,
  ⟨some 7, .mv (.t 31), none⟩])
 (.seq (.block 1 [0, 5, 6, 7, 8]
 (.seq (.reg [⟨some 33, .mv (.t 7), none⟩,
  ⟨some 34, .call 68 [(.t 33)], none⟩,
  ⟨some 35, .un .not (.t 34), none⟩,
  ⟨some 32, .mv (.t 35), none⟩])
 (.cond (.t 32)
 (.seq (.reg [⟨some 8, .mv (.c (.int .i64 5)), none⟩])
 (.goto 1))
 (.seq (.reg [⟨some 37, .mv (.t 7), none⟩,
  ⟨some 38, .mv (.t 0), none⟩,
  ⟨some 39, .len none (.t 38), none⟩,
  ⟨some 40, .bin .gtr [] (.t 37) (.t 39), none⟩,
  ⟨some 36, .mv (.t 40), none⟩])
 (.cond (.t 36)
 (.goto 1)
 (.seq (.reg [⟨some 42, .mv (.t 5), none⟩,
  ⟨some 43, .len none (.t 42), none⟩,
  ⟨some 44, .bin .eql [] (.t 43) (.c (.int .i64 8)), none⟩,
  ⟨some 41, .mv (.t 44), none⟩])
 (.cond (.t 41)
 (.seq (.reg [⟨some 8, .mv (.c (.int .i64 7)), none⟩])
 (.goto 1))
 (.skip))))))))
 (.seq (.regd [(0, ⟨some 45, .mv (.t 5), none⟩),
  (1, ⟨some 46, .mv (.t 6), none⟩),
  (2, ⟨some 47, .ia none 1 (.t 46) (.c (.int .i64 0)), none⟩),
  (3, ⟨some 48, .ld none (.t 47), none⟩),
  (4, ⟨some 49, .ci .u16 (.t 48), none⟩),
  (5, ⟨some 50, .mv (.t 0), none⟩),
  (6, ⟨some 51, .mv (.t 7), none⟩),
  (7, ⟨some 52, .slc none 1 (.t 50) none (some (.t 51)) none, none⟩),
  (8, ⟨some 53, .call 67 [(.t 52)], none⟩),
  (9, ⟨some 54, .bld [(.int .u16 0), .nils] [(0, 1, (.t 49)), (1, 1, (.t 53))], none⟩),
  (10, ⟨some 55, .bsl (.vals [(.int .u16 0), .nils]) 1 2 [(0, 2, (.t 54))], none⟩),
  (11, ⟨some 56, .app (.vals [(.int .u16 0), .nils]) 32 (.t 45) (.t 55), none⟩),
  (12, ⟨some 5, .mv (.t 56), none⟩)] [(3, 8)])
 (.seq (.reg [⟨some 57, .mv (.t 0), none⟩,
  ⟨some 58, .mv (.t 7), none⟩,
  ⟨some 59, .slc none 1 (.t 57) (some (.t 58)) none none, none⟩,
  ⟨some 0, .mv (.t 59), none⟩])
 (.seq (.goto 0)
 (.seq (.skip)
 (.seq (.reg [⟨some 60, .mv (.t 8), none⟩,
  ⟨some 2, .mv (.c .nils), none⟩,
  ⟨some 3, .mv (.c .nils), none⟩,
  ⟨some 4, .mv (.t 60), none⟩])
 (.ret))))))))))))))))),
 [.tmp 2, .tmp 3, .tmp 4], true⟩
def M39 : MFunc := ⟨.seq (.reg [⟨some 4, .mv (.c .nils), none⟩,
  ⟨some 5, .mv (.c .nils), none⟩,
  ⟨some 6, .mv (.c (.int .i64 0)), none⟩])
 (.seq (.reg [⟨some 11, .mv (.t 0), none⟩,
  ⟨some 12, .call 69 [(.t 11)], none⟩,
  ⟨some 10, .mv (.t 12), none⟩,
  ⟨some 13, .ex 0 (.t 10), none⟩,
  ⟨some 14, .ex 1 (.t 10), none⟩,
  ⟨some 7, .mv (.t 13), none⟩,
  ⟨some 8, .mv (.t 14), none⟩])
 (.seq (.block 0 [0, 1, 7]
 (.seq (.reg [⟨some 16, .mv (.t 8), none⟩,
  ⟨some 17, .bin .neq [] (.t 16) (.c (.int .i64 0)), none⟩,
  ⟨some 15, .mv (.t 17), none⟩])
 (.cond (.t 15)
 (.seq (.reg [⟨some 18, .mv (.t 8), none⟩,
  ⟨some 4, .mv (.c .nils), none⟩,
  ⟨some 5, .mv (.c .nils), none⟩,
  ⟨some 6, .mv (.t 18), none⟩])
 (.ret))
 (.seq (.reg [⟨some 20, .mv (.t 7), none⟩,
  ⟨some 21, .mv (.t 1), none⟩,
  ⟨some 22, .len none (.t 21), none⟩,
  ⟨some 23, .bin .gtr [] (.t 20) (.t 22), none⟩,
  ⟨some 19, .mv (.t 23), none⟩])
 (.cond (.t 19)
 (.seq (.reg [⟨some 4, .mv (.c .nils), none⟩,
  ⟨some 5, .mv (.c .nils), none⟩,
  ⟨some 6, .mv (.c (.int .i64 4)), none⟩])
 (.ret))
 (.skip))))))
 (.seq (.reg [⟨some 9, .al (.vals [.nils]), none⟩])
 (.seq (.reg [⟨some 24, .mv (.t 0), none⟩,
  ⟨some 25, .mv (.t 1), none⟩,
  ⟨some 26, .mf 71 [(.t 9)], none⟩,
  ⟨some 27, .call 70 [(.t 24), (.t 25), (.t 26)], none⟩])
 (.seq (.regd [(0, ⟨some 28, .ld none (.t 9), none⟩),
  (1, ⟨some 29, .mv (.t 1), none⟩),
  (2, ⟨some 30, .mv (.t 7), none⟩),
  (3, ⟨some 31, .slc none 1 (.t 29) (some (.t 30)) none none, none⟩),
  (4, ⟨some 32, .call 66 [(.t 31)], none⟩),
  (5, ⟨some 4, .mv (.t 28), none⟩),
  (6, ⟨some 5, .mv (.t 32), none⟩),
  (7, ⟨some 6, .mv (.c (.int .i64 0)), none⟩)] [(0, 4)])
 (.ret)))))),
 [.tmp 4, .tmp 5, .tmp 6], true⟩
def M40 : MFunc := ⟨.seq (.reg [⟨some 0, .mv (.c .nils), none⟩])
 (.seq (.reg [⟨some 1, .bsl (.ints .i64 [0]) 2 1 [(0, 1, (.c (.int .i64 4))), (1, 1, (.c (.int .i64 8)))], none⟩,
  ⟨some 0, .mv (.t 1), none⟩])
 (.ret)),
 [.tmp 0], true⟩
def M41 : MFunc := ⟨.seq (.reg [⟨some 3, .bx none 3 (.t 0), none⟩,
  ⟨some 6, .mv (.c (.bool false)), none⟩])
 (.seq (.reg [⟨some 7, .ld (some 3) (.t 3), none⟩,
  ⟨some 8, .mv (.t 2), none⟩,
  ⟨some 9, .call 45 [(.t 7), (.t 8)], none⟩,
  ⟨some 10, .mv (.t 1), none⟩,
  ⟨some 11, .bin .eql [] (.t 9) (.t 10), none⟩,
  ⟨some 6, .mv (.t 11), none⟩])
 (.ret)),
 [.tmp 6], true⟩
def M42 : MFunc := ⟨.seq (.reg [⟨some 1, .bx none 17 (.t 0), none⟩,
  ⟨some 2, .mv (.c .nils), none⟩])
 (.seq (.reg [⟨some 8, .ld (some 17) (.t 1), none⟩,
  ⟨some 9, .call 73 [(.t 8)], none⟩,
  ⟨some 7, .mv (.t 9), none⟩,
  ⟨some 10, .ex 0 (.t 7), none⟩,
  ⟨some 11, .ex 1 (.t 7), none⟩,
  ⟨some 3, .mv (.t 10), none⟩,
  ⟨some 4, .mv (.t 11), none⟩])
 (.seq (.reg [⟨some 13, .fa 13 (.t 1), none⟩,
  ⟨some 14, .ld none (.t 13), none⟩,
  ⟨some 15, .call 74 [(.t 14)], none⟩,
  ⟨some 12, .mv (.t 15), none⟩,
  ⟨some 16, .ex 0 (.t 12), none⟩,
  ⟨some 17, .ex 1 (.t 12), none⟩,
  ⟨some 5, .mv (.t 16), none⟩,
  ⟨some 6, .mv (.t 17), none⟩])
 (.seq (.reg [⟨some 18, .mv (.t 3), none⟩,
  ⟨some 19, .mv (.t 5), none⟩,
  ⟨some 20, .app (.ints .u8 [0]) 1 (.t 18) (.t 19), none⟩,
  ⟨some 2, .mv (.t 20), none⟩])
 (.ret)))),
 [.tmp 2], true⟩
def M43 : MFunc := ⟨.seq (.reg [⟨some 3, .mv (.c (.int .u64 0)), none⟩])
 (.seq (.seq (.reg [⟨some 4, .mv (.t 0), none⟩,
  ⟨some 5, .ld none (.t 1), none⟩,
  ⟨some 6, .bin .lss [] (.t 4) (.t 5), none⟩])
 (.cond (.t 6)
 (.seq (.reg [⟨some 7, .ld none (.t 1), none⟩,
  ⟨some 8, .mv (.t 0), none⟩,
  ⟨some 9, .bin .sub [] (.t 7) (.t 8), none⟩,
  ⟨some 10, .ci .u64 (.t 9), none⟩,
  ⟨some 3, .mv (.t 10), none⟩])
 (.ret))
 (.skip)))
 (.seq (.reg [⟨some 11, .mv (.t 0), none⟩,
  ⟨some 12, .ld none (.t 1), none⟩,
  ⟨some 13, .bin .sub [] (.t 11) (.t 12), none⟩,
  ⟨some 14, .ci .u64 (.t 13), none⟩,
  ⟨some 3, .mv (.t 14), none⟩])
 (.ret))),
 [.tmp 3], true⟩
def M44 : MFunc := ⟨.seq (.reg [⟨some 2, .mv (.c (.int .i64 0)), none⟩])
 (.seq (.reg [⟨some 3, .mv (.t 0), none⟩,
  ⟨some 4, .ci .i64 (.t 3), none⟩,
  ⟨some 5, .bin .mul [] (.t 4) (.c (.int .i64 1000000000)), none⟩,
  ⟨some 6, .bin .add [] (.t 5) (.c (.int .i64 65535)), none⟩,
  ⟨some 7, .bin .shr [] (.t 6) (.c (.int .u64 16)), none⟩,
  ⟨some 2, .mv (.t 7), none⟩])
 (.ret)),
 [.tmp 2], true⟩
def M45 : MFunc := ⟨.seq (.reg [⟨some 2, .bx none 3 (.t 0), none⟩,
  ⟨some 4, .mv (.c (.int .u64 0)), none⟩])
 (.seq (.reg [⟨some 12, .fa 1 (.t 2), none⟩,
  ⟨some 13, .ld none (.t 12), none⟩,
  ⟨some 14, .bin .xor [] (.t 13) (.c (.int .u64 8317987319222330741)), none⟩,
  ⟨some 15, .fa 2 (.t 2), none⟩,
  ⟨some 16, .ld none (.t 15), none⟩,
  ⟨some 17, .bin .xor [] (.t 16) (.c (.int .u64 7237128888997146477)), none⟩,
  ⟨some 18, .fa 1 (.t 2), none⟩,
  ⟨some 19, .ld none (.t 18), none⟩,
  ⟨some 20, .bin .xor [] (.t 19) (.c (.int .u64 7816392313619706465)), none⟩,
  ⟨some 21, .fa 2 (.t 2), none⟩,
  ⟨some 22, .ld none (.t 21), none⟩,
  ⟨some 23, .bin .xor [] (.t 22) (.c (.int .u64 8387220255154660723)), none⟩,
  ⟨some 24, .bld [(.int .u64 0), (.int .u64 0), (.int .u64 0), (.int .u64 0)] [(0, 1, (.t 14)), (1, 1, (.t 17)), (2, 1, (.t 20)), (3, 1, (.t 23))], none⟩,
  ⟨some 25, .bx (some .u64) 4 (.t 24), none⟩,
  ⟨some 5, .mv (.t 25), none⟩])
 (.seq (.reg [⟨some 6, .mv (.c (.int .u64 0)), none⟩,
  ⟨some 7, .mv (.c (.int .u64 0)), none⟩])
 (.seq (.seq (.reg [⟨some 26, .mv (.t 1), none⟩,
  ⟨some 27, .len none (.t 26), none⟩,
  ⟨some 28, .mv (.c (.int .i64 0)), none⟩])
 (.block 0 [5, 6, 7]
 (.loop [5, 6, 7, 26, 27, 28]
 (.seq (.reg [⟨some 29, .bin .lss [] (.t 28) (.t 27), none⟩])
 (.seq (.cond (.t 29)
 (.skip)
 (.exit 0))
 (.seq (.block 1 [5, 6, 7, 26, 27, 28]
 (.seq (.reg [⟨some 30, .ia none 1 (.t 26) (.t 28), none⟩,
  ⟨some 31, .ld none (.t 30), none⟩,
  ⟨some 9, .mv (.t 31), none⟩])
 (.seq (.reg [⟨some 32, .mv (.t 9), none⟩,
  ⟨some 33, .len none (.t 32), none⟩,
  ⟨some 34, .mv (.c (.int .i64 0)), none⟩])
 (.block 2 [5, 6, 7, 26, 27, 28]
 (.loop [5, 6, 7, 26, 27, 28, 32, 33, 34]
 (.seq (.reg [⟨some 35, .bin .lss [] (.t 34) (.t 33), none⟩])
 (.seq (.cond (.t 35)
 (.skip)
 (.exit 2))
 (.seq (.block 3 [5, 6, 7, 26, 27, 28, 32, 33, 34]
 (.seq (.reg [⟨some 36, .ia none 1 (.t 32) (.t 34), none⟩,
  ⟨some 37, .ld none (.t 36), none⟩,
  ⟨some 11, .mv (.t 37), none⟩])
 (.seq (.reg [⟨some 38, .mv (.t 6), none⟩,
  ⟨some 39, .mv (.t 11), none⟩,
  ⟨some 40, .ci .u64 (.t 39), none⟩,
  ⟨some 41, .mv (.t 7), none⟩,
  ⟨some 42, .bin .rem [] (.t 41) (.c (.int .u64 8)), none⟩,
  ⟨some 43, .bin .mul [] (.c (.int .u64 8)) (.t 42), none⟩,
  ⟨some 44, .bin .shl [] (.t 40) (.t 43), none⟩,
  ⟨some 45, .bin .or [] (.t 38) (.t 44), none⟩,
  ⟨some 6, .mv (.t 45), none⟩])
 (.seq (.reg [⟨some 46, .mv (.t 7), none⟩,
  ⟨some 47, .bin .add [] (.t 46) (.c (.int .u64 1)), none⟩,
  ⟨some 7, .mv (.t 47), none⟩])
 (.seq (.reg [⟨some 48, .mv (.t 7), none⟩,
  ⟨some 49, .bin .rem [] (.t 48) (.c (.int .u64 8)), none⟩,
  ⟨some 50, .bin .eql [] (.t 49) (.c (.int .u64 0)), none⟩])
 (.cond (.t 50)
 (.seq (.reg [⟨some 51, .mv (.t 5), none⟩,
  ⟨some 52, .mv (.t 6), none⟩,
  ⟨some 53, .call 75 [(.t 51), (.t 52)], none⟩])
 (.reg [⟨some 6, .mv (.c (.int .u64 0)), none⟩]))
 (.skip)))))))
 (.reg [⟨some 54, .bin .add [] (.t 34) (.c (.int .i64 1)), none⟩,
  ⟨some 34, .mv (.t 54), none⟩])))))))))
 (.reg [⟨some 55, .bin .add [] (.t 28) (.c (.int .i64 1)), none⟩,
  ⟨some 28, .mv (.t 55), none⟩])))))))
 (.seq (.reg [⟨some 56, .mv (.t 5), none⟩,
  ⟨some 57, .mv (.t 6), none⟩,
  ⟨some 58, .mv (.t 7), none⟩,
  ⟨some 59, .bin .shl [] (.t 58) (.c (.int .u64 56)), none⟩,
  ⟨some 60, .bin .or [] (.t 57) (.t 59), none⟩,
  ⟨some 61, .call 75 [(.t 56), (.t 60)], none⟩])
 (.seq (.regd [(0, ⟨some 62, .mv (.t 5), none⟩),
  (1, ⟨some 63, .nc (.t 62), none⟩),
  (2, ⟨some 64, .ia (some 4) 1 (.t 63) (.c (.int .i64 2)), none⟩),
  (3, ⟨some 65, .ld none (.t 64), none⟩),
  (4, ⟨some 66, .bin .xor [] (.t 65) (.c (.int .u64 255)), none⟩),
  (5, ⟨some 67, .nc (.t 62), none⟩),
  (6, ⟨some 68, .ia (some 4) 1 (.t 67) (.c (.int .i64 2)), none⟩),
  (7, ⟨none, .st 1 (.t 68) (.t 66), none⟩)] [])
 (.seq (.reg [⟨some 69, .mv (.t 5), none⟩,
  ⟨some 70, .call 76 [(.t 69), (.c (.int .i64 4))], none⟩])
 (.seq (.regd [(0, ⟨some 71, .mv (.t 5), none⟩),
  (1, ⟨some 72, .nc (.t 71), none⟩),
  (2, ⟨some 73, .ia (some 4) 1 (.t 72) (.c (.int .i64 0)), none⟩),
  (3, ⟨some 74, .ld none (.t 73), none⟩),
  (4, ⟨some 75, .mv (.t 5), none⟩),
  (5, ⟨some 76, .nc (.t 75), none⟩),
  (6, ⟨some 77, .ia (some 4) 1 (.t 76) (.c (.int .i64 1)), none⟩),
  (7, ⟨some 78, .ld none (.t 77), none⟩),
  (8, ⟨some 79, .bin .xor [] (.t 74) (.t 78), none⟩),
  (9, ⟨some 80, .mv (.t 5), none⟩),
  (10, ⟨some 81, .nc (.t 80), none⟩),
  (11, ⟨some 82, .ia (some 4) 1 (.t 81) (.c (.int .i64 2)), none⟩),
  (12, ⟨some 83, .ld none (.t 82), none⟩),
  (13, ⟨some 84, .bin .xor [] (.t 79) (.t 83), none⟩),
  (14, ⟨some 85, .mv (.t 5), none⟩),
  (15, ⟨some 86, .nc (.t 85), none⟩),
  (16, ⟨some 87, .ia (some 4) 1 (.t 86) (.c (.int .i64 3)), none⟩),
  (17, ⟨some 88, .ld none (.t 87), none⟩),
  (18, ⟨some 89, .bin .xor [] (.t 84) (.t 88), none⟩),
  (19, ⟨some 4, .mv (.t 89), none⟩)] [])
 (.ret)))))))),
 [.tmp 4], true⟩
def M46 : MFunc := ⟨.seq (.reg [⟨some 2, .bx none 17 (.t 0), none⟩,
  ⟨some 3, .bx none 17 (.t 1), none⟩,
  ⟨some 4, .mv (.c (.bool false)), none⟩])
 (.seq (.regd [(0, ⟨some 5, .ld (some 17) (.t 2), none⟩),
  (1, ⟨some 6, .call 77 [(.t 5)], none⟩),
  (2, ⟨some 7, .ld (some 17) (.t 3), none⟩),
  (3, ⟨some 8, .call 77 [(.t 7)], none⟩),
  (4, ⟨some 9, .bin .eql [5, 0, 0, 0, 0, 0, 0, 0, 0, 0, 0, 0, 0, 0] (.t 6) (.t 8), none⟩),
  (5, ⟨some 4, .mv (.t 9), none⟩)] [(2, 1)])
 (.ret)),
 [.tmp 4], true⟩
def M47 : MFunc := ⟨.seq (.reg [⟨some 4, .mv (.c (.bool false)), none⟩])
 (.seq (.reg [⟨some 5, .mv (.t 0), none⟩,
  ⟨some 6, .mv (.t 1), none⟩,
  ⟨some 7, .call 78 [(.t 5), (.t 6), (.f 79)], none⟩,
  ⟨some 4, .mv (.t 7), none⟩])
 (.ret)),
 [.tmp 4], true⟩
def M48 : MFunc := ⟨.seq (.reg [⟨some 4, .mv (.c (.str ⟨#[]⟩)), none⟩])
 (.seq (.seq (.reg [⟨some 7, .mv (.t 0), none⟩,
  ⟨some 8, .bin .eql [] (.t 7) (.c (.str ⟨#[]⟩)), none⟩,
  ⟨some 9, .mv (.t 8), none⟩,
  ⟨some 10, .mv (.t 1), some (9, false)⟩,
  ⟨some 11, .bin .eql [] (.t 10) (.c (.str ⟨#[]⟩)), some (9, false)⟩,
  ⟨some 12, .pick (.t 9) (.c (.bool true)) (.t 11), none⟩])
 (.cond (.t 12)
 (.seq (.reg [⟨some 13, .mv (.t 0), none⟩,
  ⟨some 4, .mv (.t 13), none⟩])
 (.ret))
 (.skip)))
 (.seq (.seq (.reg [⟨some 14, .mv (.t 1), none⟩,
  ⟨some 15, .lens (.t 14), none⟩,
  ⟨some 16, .bin .eql [] (.t 15) (.c (.int .i64 1)), none⟩,
  ⟨some 17, .mv (.t 16), none⟩,
  ⟨some 18, .mv (.t 1), some (17, true)⟩,
  ⟨some 19, .ixs (.t 18) (.c (.int .i64 0)), some (17, true)⟩,
  ⟨some 20, .bin .lss [] (.t 19) (.c (.int .u8 128)), some (17, true)⟩,
  ⟨some 21, .pick (.t 17) (.t 20) (.c (.bool false)), none⟩])
 (.cond (.t 21)
 (.seq (.reg [⟨some 22, .mv (.t 0), none⟩,
  ⟨some 23, .mv (.t 1), none⟩,
  ⟨some 24, .ixs (.t 23) (.c (.int .i64 0)), none⟩,
  ⟨some 25, .call 81 [(.t 22), (.t 24)], none⟩,
  ⟨some 4, .mv (.t 25), none⟩])
 (.ret))
 (.skip)))
 (.seq (.seq (.reg [⟨some 27, .mv (.t 1), none⟩,
  ⟨some 28, .call 82 [(.t 27)], none⟩,
  ⟨some 26, .mv (.t 28), none⟩,
  ⟨some 29, .ex 0 (.t 26), none⟩,
  ⟨some 30, .ex 1 (.t 26), none⟩,
  ⟨some 5, .al (.vals [(.bool false), (.bool false), (.bool false), (.bool false), (.bool false), (.bool false), (.bool false), (.bool false), (.bool false), (.bool false), (.bool false), (.bool false), (.bool false), (.bool false), (.bool false), (.bool false), (.bool false), (.bool false), (.bool false), (.bool false), (.bool false), (.bool false), (.bool false), (.bool false), (.bool false), (.bool false), (.bool false), (.bool false), (.bool false), (.bool false), (.bool false), (.bool false), (.bool false), (.bool false), (.bool false), (.bool false), (.bool false), (.bool false), (.bool false), (.bool false), (.bool false), (.bool false), (.bool false), (.bool false), (.bool false), (.bool false), (.bool false), (.bool false), (.bool false), (.bool false), (.bool false), (.bool false), (.bool false), (.bool false), (.bool false), (.bool false), (.bool false), (.bool false), (.bool false), (.bool false), (.bool false), (.bool false), (.bool false), (.bool false), (.bool false), (.bool false), (.bool false), (.bool false), (.bool false), (.bool false), (.bool false), (.bool false), (.bool false), (.bool false), (.bool false), (.bool false), (.bool false), (.bool false), (.bool false), (.bool false), (.bool false), (.bool false), (.bool false), (.bool false), (.bool false), (.bool false), (.bool false), (.bool false), (.bool false), (.bool false), (.bool false), (.bool false), (.bool false), (.bool false), (.bool false), (.bool false), (.bool false), (.bool false), (.bool false), (.bool false), (.bool false), (.bool false), (.bool false), (.bool false), (.bool false), (.bool false), (.bool false), (.bool false), (.bool false), (.bool false), (.bool false), (.bool false), (.bool false), (.bool false), (.bool false), (.bool false), (.bool false), (.bool false), (.bool false), (.bool false), (.bool false), (.bool false), (.bool false), (.bool false), (.bool false), (.bool false), (.bool false), (.bool false), (.bool false), (.bool false), (.bool false), (.bool false), (.bool false), (.bool false), (.bool false), (.bool false), (.bool false), (.bool false), (.bool false), (.bool false), (.bool false), (.bool false), (.bool false), (.bool false), (.bool false), (.bool false), (.bool false), (.bool false), (.bool false), (.bool false), (.bool false), (.bool false), (.bool false), (.bool false), (.bool false), (.bool false), (.bool false), (.bool false), (.bool false), (.bool false), (.bool false), (.bool false), (.bool false), (.bool false), (.bool false), (.bool false), (.bool false), (.bool false), (.bool false), (.bool false), (.bool false), (.bool false), (.bool false), (.bool false), (.bool false), (.bool false), (.bool false), (.bool false), (.bool false), (.bool false), (.bool false), (.bool false), (.bool false), (.bool false), (.bool false), (.bool false), (.bool false), (.bool false), (.bool false), (.bool false), (.bool false), (.bool false), (.bool false), (.bool false), (.bool false), (.bool false), (.bool false), (.bool false), (.bool false), (.bool false), (.bool false), (.bool false), (.bool false), (.bool false), (.bool false), (.bool false), (.bool false), (.bool false), (.bool false), (.bool false), (.bool false), (.bool false), (.bool false), (.bool false), (.bool false), (.bool false), (.bool false), (.bool false), (.bool false), (.bool false), (.bool false), (.bool false), (.bool false), (.bool false), (.bool false), (.bool false), (.bool false), (.bool false), (.bool false), (.bool false), (.bool false), (.bool false), (.bool false), (.bool false), (.bool false), (.bool false), (.bool false), (.bool false), (.bool false), (.bool false), (.bool false), (.bool false), (.bool false), (.bool false), (.bool false), (.bool false), (.bool false), (.bool false), (.bool false), (.bool false), (.bool false), (.bool false), (.bool false), (.bool false), (.bool false), (.bool false)]), none⟩,
  ⟨none, .st 256 (.t 5) (.t 29), none⟩,
  ⟨some 6, .mv (.t 30), none⟩])
 (.seq (.reg [⟨some 31, .mv (.t 6), none⟩])
 (.cond (.t 31)
 (.seq (.reg [⟨some 32, .mv (.t 0), none⟩,
  ⟨some 33, .call 83 [(.t 32), (.t 5)], none⟩,
  ⟨some 4, .mv (.t 33), none⟩])
 (.ret))
 (.skip))))
 (.seq (.reg [⟨some 34, .mv (.t 0), none⟩,
  ⟨some 35, .mv (.t 1), none⟩,
  ⟨some 36, .call 84 [(.t 34), (.t 35)], none⟩,
  ⟨some 4, .mv (.t 36), none⟩])
 (.ret))))),
 [.tmp 4], true⟩
def M49 : MFunc := ⟨.seq (.reg [⟨some 1, .bx none 17 (.t 0), none⟩,
  ⟨some 2, .mv (.c (.bool false)), none⟩])
 (.seq (.reg [⟨some 6, .mf 85 [(.t 1)], none⟩,
  ⟨some 7, .mf 86 [(.t 1)], none⟩,
  ⟨some 8, .mf 88 [(.t 1)], none⟩,
  ⟨some 9, .mf 89 [(.t 1)], none⟩,
  ⟨some 10, .bld [.nilf, .nilf, .nilf, .nilf] [(0, 1, (.t 6)), (1, 1, (.t 7)), (2, 1, (.t 8)), (3, 1, (.t 9))], none⟩,
  ⟨some 3, .al (.vals [.nilf, .nilf, .nilf, .nilf]), none⟩,
  ⟨none, .st 4 (.t 3) (.t 10), none⟩])
 (.seq (.seq (.reg [⟨some 11, .ld (some 4) (.t 3), none⟩,
  ⟨some 12, .mv (.c (.int .i64 0)), none⟩])
 (.block 0 []
 (.loop [11, 12]
 (.seq (.reg [⟨some 13, .bin .lss [] (.t 12) (.c (.int .i64 4)), none⟩])
 (.seq (.cond (.t 13)
 (.skip)
 (.exit 0))
 (.seq (.block 1 [11, 12]
 (.seq (.reg [⟨some 14, .ixa 4 1 none (.t 11) (.t 12), none⟩,
  ⟨some 5, .mv (.t 14), none⟩])
 (.seq (.reg [⟨some 15, .mv (.t 5), none⟩,
  ⟨some 16, .calld (.t 15) [], none⟩,
  ⟨some 17, .un .not (.t 16), none⟩])
 (.cond (.t 17)
 (.seq (.reg [⟨some 2, .mv (.c (.bool false)), none⟩])
 (.ret))
 (.skip)))))
 (.reg [⟨some 18, .bin .add [] (.t 12) (.c (.int .i64 1)), none⟩,
  ⟨some 12, .mv (.t 18), none⟩])))))))
 (.seq (.reg [⟨some 2, .mv (.c (.bool true)), none⟩])
 (.ret)))),
 [.tmp 2], true⟩
def M50 : MFunc := ⟨.seq (.reg [⟨some 3, .bx none 1 (.t 1), none⟩,
  ⟨some 4, .mv (.c .nils), none⟩,
  ⟨some 5, .mv (.c (.int .i64 0)), none⟩])
 (.seq (.reg [⟨some 10, .mv (.t 0), none⟩,
  ⟨some 11, .call 69 [(.t 10)], none⟩,
  ⟨some 9, .mv (.t 11), none⟩,
  ⟨some 12, .ex 0 (.t 9), none⟩,
  ⟨some 13, .ex 1 (.t 9), none⟩,
  ⟨some 7, .al (.ints .i64 [0]), none⟩,
  ⟨some 6, .mv (.t 12), none⟩,
  ⟨none, .st 1 (.t 7) (.t 13), none⟩])
 (.seq (.seq (.reg [⟨some 14, .ld none (.t 7), none⟩,
  ⟨some 15, .bin .neq [] (.t 14) (.c (.int .i64 0)), none⟩,
  ⟨some 16, .mv (.t 15), none⟩,
  ⟨some 17, .mv (.t 0), some (16, false)⟩,
  ⟨some 18, .len none (.t 17), some (16, false)⟩,
  ⟨some 19, .ld none (.t 3), some (16, false)⟩,
  ⟨some 20, .len none (.t 19), some (16, false)⟩,
  ⟨some 21, .bin .neq [] (.t 18) (.t 20), some (16, false)⟩,
  ⟨some 22, .pick (.t 16) (.c (.bool true)) (.t 21), none⟩])
 (.cond (.t 22)
 (.seq (.reg [⟨some 4, .mv (.c .nils), none⟩,
  ⟨some 5, .mv (.c (.int .i64 1)), none⟩])
 (.ret))
 (.skip)))
 (.seq (.reg [⟨some 23, .mv (.t 6), none⟩,
  ⟨some 24, .mks (.ints .u8 [0]) 1 (.t 23) (.t 23), none⟩,
  ⟨some 8, .mv (.t 24), none⟩])
 (.seq (.reg [⟨some 25, .mv (.t 0), none⟩,
  ⟨some 26, .mv (.t 8), none⟩,
  ⟨some 27, .mf 90 [(.t 3), (.t 7)], none⟩,
  ⟨some 28, .call 70 [(.t 25), (.t 26), (.t 27)], none⟩])
 (.seq (.seq (.reg [⟨some 29, .ld none (.t 7), none⟩,
  ⟨some 30, .bin .neq [] (.t 29) (.c (.int .i64 0)), none⟩])
 (.cond (.t 30)
 (.seq (.regd [(0, ⟨some 31, .ld none (.t 7), none⟩),
  (1, ⟨some 4, .mv (.c .nils), none⟩),
  (2, ⟨some 5, .mv (.t 31), none⟩)] [])
 (.ret))
 (.skip)))
 (.seq (.reg [⟨some 32, .mv (.t 8), none⟩,
  ⟨some 4, .mv (.t 32), none⟩,
  ⟨some 5, .mv (.c (.int .i64 0)), none⟩])
 (.ret))))))),
 [.tmp 4, .tmp 5], true⟩
def M51 : MFunc := ⟨.seq (.reg [⟨some 2, .mv (.c (.bool false)), none⟩])
 (.seq (.reg [⟨some 3, .mv (.t 0), none⟩,
  ⟨some 4, .bin .geq [] (.t 3) (.c (.int .i64 0)), none⟩,
  ⟨some 5, .mv (.t 4), none⟩,
  ⟨some 6, .mv (.t 0), some (5, true)⟩,
  ⟨some 7, .bin .leq [] (.t 6) (.c (.int .i64 4611686018427387904)), some (5, true)⟩,
  ⟨some 8, .pick (.t 5) (.t 7) (.c (.bool false)), none⟩,
  ⟨some 2, .mv (.t 8), none⟩])
 (.ret)),
 [.tmp 2], true⟩
def M52 : MFunc := ⟨.seq (.reg [⟨some 2, .mv (.c (.int .i64 0)), none⟩,
  ⟨some 3, .mv (.c (.int .u32 0)), none⟩,
  ⟨some 4, .mv (.c (.int .u64 0)), none⟩])
 (.seq (.reg [⟨some 7, .mv (.t 0), none⟩,
  ⟨some 8, .bin .quo [] (.t 7) (.c (.int .i64 1000000000)), none⟩,
  ⟨some 9, .mv (.t 0), none⟩,
  ⟨some 10, .bin .rem [] (.t 9) (.c (.int .i64 1000000000)), none⟩,
  ⟨some 5, .mv (.t 8), none⟩,
  ⟨some 6, .mv (.t 10), none⟩])
 (.seq (.seq (.reg [⟨some 11, .mv (.t 6), none⟩,
  ⟨some 12, .bin .lss [] (.t 11) (.c (.int .i64 0)), none⟩])
 (.cond (.t 12)
 (.reg [⟨some 13, .mv (.t 5), none⟩,
  ⟨some 14, .bin .sub [] (.t 13) (.c (.int .i64 1)), none⟩,
  ⟨some 15, .mv (.t 6), none⟩,
  ⟨some 16, .bin .add [] (.t 15) (.c (.int .i64 1000000000)), none⟩,
  ⟨some 5, .mv (.t 14), none⟩,
  ⟨some 6, .mv (.t 16), none⟩])
 (.skip)))
 (.seq (.reg [⟨some 17, .mv (.t 5), none⟩,
  ⟨some 18, .bin .shr [] (.t 17) (.c (.int .u64 32)), none⟩,
  ⟨some 19, .mv (.t 5), none⟩,
  ⟨some 20, .ci .u32 (.t 19), none⟩,
  ⟨some 21, .mv (.t 6), none⟩,
  ⟨some 22, .ci .u64 (.t 21), none⟩,
  ⟨some 2, .mv (.t 18), none⟩,
  ⟨some 3, .mv (.t 20), none⟩,
  ⟨some 4, .mv (.t 22), none⟩])
 (.ret)))),
 [.tmp 2, .tmp 3, .tmp 4], true⟩
def M53 : MFunc := ⟨.seq (.reg [⟨some 4, .mv (.c (.int .u64 0)), none⟩,
  ⟨some 5, .mv (.c (.int .u64 0)), none⟩])
 (.seq (.reg [⟨some 14, .mv (.t 0), none⟩,
  ⟨some 15, .bin .and [] (.t 14) (.c (.int .u64 4294967295)), none⟩,
  ⟨some 6, .mv (.t 15), none⟩])
 (.seq (.reg [⟨some 16, .mv (.t 0), none⟩,
  ⟨some 17, .bin .shr [] (.t 16) (.c (.int .u64 32)), none⟩,
  ⟨some 7, .mv (.t 17), none⟩])
 (.seq (.reg [⟨some 18, .mv (.t 1), none⟩,
  ⟨some 19, .bin .and [] (.t 18) (.c (.int .u64 4294967295)), none⟩,
  ⟨some 8, .mv (.t 19), none⟩])
 (.seq (.reg [⟨some 20, .mv (.t 1), none⟩,
  ⟨some 21, .bin .shr [] (.t 20) (.c (.int .u64 32)), none⟩,
  ⟨some 9, .mv (.t 21), none⟩])
 (.seq (.reg [⟨some 22, .mv (.t 6), none⟩,
  ⟨some 23, .mv (.t 8), none⟩,
  ⟨some 24, .bin .mul [] (.t 22) (.t 23), none⟩,
  ⟨some 10, .mv (.t 24), none⟩])
 (.seq (.reg [⟨some 25, .mv (.t 7), none⟩,
  ⟨some 26, .mv (.t 8), none⟩,
  ⟨some 27, .bin .mul [] (.t 25) (.t 26), none⟩,
  ⟨some 28, .mv (.t 10), none⟩,
  ⟨some 29, .bin .shr [] (.t 28) (.c (.int .u64 32)), none⟩,
  ⟨some 30, .bin .add [] (.t 27) (.t 29), none⟩,
  ⟨some 11, .mv (.t 30), none⟩])
 (.seq (.reg [⟨some 31, .mv (.t 11), none⟩,
  ⟨some 32, .bin .and [] (.t 31) (.c (.int .u64 4294967295)), none⟩,
  ⟨some 12, .mv (.t 32), none⟩])
 (.seq (.reg [⟨some 33, .mv (.t 11), none⟩,
  ⟨some 34, .bin .shr [] (.t 33) (.c (.int .u64 32)), none⟩,
  ⟨some 13, .mv (.t 34), none⟩])
 (.seq (.reg [⟨some 35, .mv (.t 12), none⟩,
  ⟨some 36, .mv (.t 6), none⟩,
  ⟨some 37, .mv (.t 9), none⟩,
  ⟨some 38, .bin .mul [] (.t 36) (.t 37), none⟩,
  ⟨some 39, .bin .add [] (.t 35) (.t 38), none⟩,
  ⟨some 12, .mv (.t 39), none⟩])
 (.seq (.reg [⟨some 40, .mv (.t 7), none⟩,
  ⟨some 41, .mv (.t 9), none⟩,
  ⟨some 42, .bin .mul [] (.t 40) (.t 41), none⟩,
  ⟨some 43, .mv (.t 13), none⟩,
  ⟨some 44, .bin .add [] (.t 42) (.t 43), none⟩,
  ⟨some 45, .mv (.t 12), none⟩,
  ⟨some 46, .bin .shr [] (.t 45) (.c (.int .u64 32)), none⟩,
  ⟨some 47, .bin .add [] (.t 44) (.t 46), none⟩,
  ⟨some 4, .mv (.t 47), none⟩])
 (.seq (.reg [⟨some 48, .mv (.t 0), none⟩,
  ⟨some 49, .mv (.t 1), none⟩,
  ⟨some 50, .bin .mul [] (.t 48) (.t 49), none⟩,
  ⟨some 5, .mv (.t 50), none⟩])
 (.ret)))))))))))),
 [.tmp 4, .tmp 5], true⟩
def M54 : MFunc := ⟨.seq (.reg [⟨some 6, .mv (.c (.int .u64 0)), none⟩,
  ⟨some 7, .mv (.c (.int .u64 0)), none⟩])
 (.seq (.seq (.reg [⟨some 19, .mv (.t 2), none⟩,
  ⟨some 20, .bin .eql [] (.t 19) (.c (.int .u64 0)), none⟩])
 (.cond (.t 20)
 (.reg [⟨some 21, .ld none (.g 2), none⟩,
  ⟨none, .bad, none⟩])
 (.skip)))
 (.seq (.seq (.reg [⟨some 22, .mv (.t 2), none⟩,
  ⟨some 23, .mv (.t 0), none⟩,
  ⟨some 24, .bin .leq [] (.t 22) (.t 23), none⟩])
 (.cond (.t 24)
 (.reg [⟨some 25, .ld none (.g 3), none⟩,
  ⟨none, .bad, none⟩])
 (.skip)))
 (.seq (.seq (.reg [⟨some 26, .mv (.t 0), none⟩,
  ⟨some 27, .bin .eql [] (.t 26) (.c (.int .u64 0)), none⟩])
 (.cond (.t 27)
 (.seq (.regd [(0, ⟨some 28, .mv (.t 1), none⟩),
  (1, ⟨some 29, .mv (.t 2), none⟩),
  (2, ⟨some 30, .bin .quo [] (.t 28) (.t 29), none⟩),
  (3, ⟨some 31, .mv (.t 1), none⟩),
  (4, ⟨some 32, .mv (.t 2), none⟩),
  (5, ⟨some 33, .bin .rem [] (.t 31) (.t 32), none⟩),
  (6, ⟨some 6, .mv (.t 30), none⟩),
  (7, ⟨some 7, .mv (.t 33), none⟩)] [])
 (.ret))
 (.skip)))
 (.seq (.reg [⟨some 34, .mv (.t 2), none⟩,
  ⟨some 35, .call 93 [(.t 34)], none⟩,
  ⟨some 36, .ci .u64 (.t 35), none⟩,
  ⟨some 8, .mv (.t 36), none⟩])
 (.seq (.reg [⟨some 37, .mv (.t 2), none⟩,
  ⟨some 38, .mv (.t 8), none⟩,
  ⟨some 39, .bin .shl [] (.t 37) (.t 38), none⟩,
  ⟨some 2, .mv (.t 39), none⟩])
 (.seq (.reg [⟨some 40, .mv (.t 2), none⟩,
  ⟨some 41, .bin .shr [] (.t 40) (.c (.int .u64 32)), none⟩,
  ⟨some 9, .mv (.t 41), none⟩])
 (.seq (.reg [⟨some 42, .mv (.t 2), none⟩,
  ⟨some 43, .bin .and [] (.t 42) (.c (.int .u64 4294967295)), none⟩,
  ⟨some 10, .mv (.t 43), none⟩])
 (.seq (.reg [⟨some 44, .mv (.t 0), none⟩,
  ⟨some 45, .mv (.t 8), none⟩,
  ⟨some 46, .bin .shl [] (.t 44) (.t 45), none⟩,
  ⟨some 47, .mv (.t 1), none⟩,
  ⟨some 48, .mv (.t 8), none⟩,
  ⟨some 49, .bin .sub [] (.c (.int .u64 64)) (.t 48), none⟩,
  ⟨some 50, .bin .shr [] (.t 47) (.t 49), none⟩,
  ⟨some 51, .bin .or [] (.t 46) (.t 50), none⟩,
  ⟨some 11, .mv (.t 51), none⟩])
 (.seq (.reg [⟨some 52, .mv (.t 1), none⟩,
  ⟨some 53, .mv (.t 8), none⟩,
  ⟨some 54, .bin .shl [] (.t 52) (.t 53), none⟩,
  ⟨some 12, .mv (.t 54), none⟩])
 (.seq (.reg [⟨some 55, .mv (.t 12), none⟩,
  ⟨some 56, .bin .shr [] (.t 55) (.c (.int .u64 32)), none⟩,
  ⟨some 13, .mv (.t 56), none⟩])
 (.seq (.reg [⟨some 57, .mv (.t 12), none⟩,
  ⟨some 58, .bin .and [] (.t 57) (.c (.int .u64 4294967295)), none⟩,
  ⟨some 14, .mv (.t 58), none⟩])
 (.seq (.reg [⟨some 59, .mv (.t 11), none⟩,
  ⟨some 60, .mv (.t 9), none⟩,
  ⟨some 61, .bin .quo [] (.t 59) (.t 60), none⟩,
  ⟨some 15, .mv (.t 61), none⟩])
 (.seq (.reg [⟨some 62, .mv (.t 11), none⟩,
  ⟨some 63, .mv (.t 15), none⟩,
  ⟨some 64, .mv (.t 9), none⟩,
  ⟨some 65, .bin .mul [] (.t 63) (.t 64), none⟩,
  ⟨some 66, .bin .sub [] (.t 62) (.t 65), none⟩,
  ⟨some 16, .mv (.t 66), none⟩])
 (.seq (.block 0 [2, 8, 9, 10, 11, 13, 14, 15]
 (.loop [2, 8, 9, 10, 11, 13, 14, 15, 16]
 (.seq (.seq (.reg [⟨some 67, .mv (.t 15), none⟩,
  ⟨some 68, .bin .geq [] (.t 67) (.c (.int .u64 4294967296)), none⟩,
  ⟨some 69, .mv (.t 68), none⟩,
  ⟨some 70, .mv (.t 15), some (69, false)⟩,
  ⟨some 71, .mv (.t 10), some (69, false)⟩,
  ⟨some 72, .bin .mul [] (.t 70) (.t 71), some (69, false)⟩,
  ⟨some 73, .mv (.t 16), some (69, false)⟩,
  ⟨some 74, .bin .mul [] (.c (.int .u64 4294967296)) (.t 73), some (69, false)⟩,
  ⟨some 75, .mv (.t 13), some (69, false)⟩,
  ⟨some 76, .bin .add [] (.t 74) (.t 75), some (69, false)⟩,
  ⟨some 77, .bin .gtr [] (.t 72) (.t 76), some (69, false)⟩,
  ⟨some 78, .pick (.t 69) (.c (.bool true)) (.t 77), none⟩])
 (.cond (.t 78)
 (.skip)
 (.exit 0)))
 (.block 1 [2, 8, 9, 10, 11, 13, 14, 15, 16]
 (.seq (.reg [⟨some 79, .mv (.t 15), none⟩,
  ⟨some 80, .bin .sub [] (.t 79) (.c (.int .u64 1)), none⟩,
  ⟨some 15, .mv (.t 80), none⟩])
 (.seq (.reg [⟨some 81, .mv (.t 16), none⟩,
  ⟨some 82, .mv (.t 9), none⟩,
  ⟨some 83, .bin .add [] (.t 81) (.t 82), none⟩,
  ⟨some 16, .mv (.t 83), none⟩])
 (.seq (.reg [⟨some 84, .mv (.t 16), none⟩,
  ⟨some 85, .bin .geq [] (.t 84) (.c (.int .u64 4294967296)), none⟩])
 (.cond (.t 85)
 (.exit 0)
 (.skip)))))))))
 (.seq (.reg [⟨some 86, .mv (.t 11), none⟩,
  ⟨some 87, .bin .mul [] (.t 86) (.c (.int .u64 4294967296)), none⟩,
  ⟨some 88, .mv (.t 13), none⟩,
  ⟨some 89, .bin .add [] (.t 87) (.t 88), none⟩,
  ⟨some 90, .mv (.t 15), none⟩,
  ⟨some 91, .mv (.t 2), none⟩,
  ⟨some 92, .bin .mul [] (.t 90) (.t 91), none⟩,
  ⟨some 93, .bin .sub [] (.t 89) (.t 92), none⟩,
  ⟨some 17, .mv (.t 93), none⟩])
 (.seq (.reg [⟨some 94, .mv (.t 17), none⟩,
  ⟨some 95, .mv (.t 9), none⟩,
  ⟨some 96, .bin .quo [] (.t 94) (.t 95), none⟩,
  ⟨some 18, .mv (.t 96), none⟩])
 (.seq (.reg [⟨some 97, .mv (.t 17), none⟩,
  ⟨some 98, .mv (.t 18), none⟩,
  ⟨some 99, .mv (.t 9), none⟩,
  ⟨some 100, .bin .mul [] (.t 98) (.t 99), none⟩,
  ⟨some 101, .bin .sub [] (.t 97) (.t 100), none⟩,
  ⟨some 16, .mv (.t 101), none⟩])
 (.seq (.block 2 [2, 8, 14, 15, 17, 18]
 (.loop [2, 8, 9, 10, 14, 15, 16, 17, 18]
 (.seq (.seq (.reg [⟨some 102, .mv (.t 18), none⟩,
  ⟨some 103, .bin .geq [] (.t 102) (.c (.int .u64 4294967296)), none⟩,
  ⟨some 104, .mv (.t 103), none⟩,
  ⟨some 105, .mv (.t 18), some (104, false)⟩,
  ⟨some 106, .mv (.t 10), some (104, false)⟩,
  ⟨some 107, .bin .mul [] (.t 105) (.t 106), some (104, false)⟩,
  ⟨some 108, .mv (.t 16), some (104, false)⟩,
  ⟨some 109, .bin .mul [] (.c (.int .u64 4294967296)) (.t 108), some (104, false)⟩,
  ⟨some 110, .mv (.t 14), some (104, false)⟩,
  ⟨some 111, .bin .add [] (.t 109) (.t 110), some (104, false)⟩,
  ⟨some 112, .bin .gtr [] (.t 107) (.t 111), some (104, false)⟩,
  ⟨some 113, .pick (.t 104) (.c (.bool true)) (.t 112), none⟩])
 (.cond (.t 113)
 (.skip)
 (.exit 2)))
 (.block 3 [2, 8, 9, 10, 14, 15, 16, 17, 18]
 (.seq (.reg [⟨some 114, .mv (.t 18), none⟩,
  ⟨some 115, .bin .sub [] (.t 114) (.c (.int .u64 1)), none⟩,
  ⟨some 18, .mv (.t 115), none⟩])
 (.seq (.reg [⟨some 116, .mv (.t 16), none⟩,
  ⟨some 117, .mv (.t 9), none⟩,
  ⟨some 118, .bin .add [] (.t 116) (.t 117), none⟩,
  ⟨some 16, .mv (.t 118), none⟩])
 (.seq (.reg [⟨some 119, .mv (.t 16), none⟩,
  ⟨some 120, .bin .geq [] (.t 119) (.c (.int .u64 4294967296)), none⟩])
 (.cond (.t 120)
 (.exit 2)
 (.skip)))))))))
 (.seq (.reg [⟨some 121, .mv (.t 15), none⟩,
  ⟨some 122, .bin .mul [] (.t 121) (.c (.int .u64 4294967296)), none⟩,
  ⟨some 123, .mv (.t 18), none⟩,
  ⟨some 124, .bin .add [] (.t 122) (.t 123), none⟩,
  ⟨some 125, .mv (.t 17), none⟩,
  ⟨some 126, .bin .mul [] (.t 125) (.c (.int .u64 4294967296)), none⟩,
  ⟨some 127, .mv (.t 14), none⟩,
  ⟨some 128, .bin .add [] (.t 126) (.t 127), none⟩,
  ⟨some 129, .mv (.t 18), none⟩,
  ⟨some 130, .mv (.t 2), none⟩,
  ⟨some 131, .bin .mul [] (.t 129) (.t 130), none⟩,
  ⟨some 132, .bin .sub [] (.t 128) (.t 131), none⟩,
  ⟨some 133, .mv (.t 8), none⟩,
  ⟨some 134, .bin .shr [] (.t 132) (.t 133), none⟩,
  ⟨some 6, .mv (.t 124), none⟩,
  ⟨some 7, .mv (.t 134), none⟩])
 (.ret)))))))))))))))))))),
 [.tmp 6, .tmp 7], true⟩
def M65 : MFunc := ⟨.seq (.reg [⟨some 1, .bx none 17 (.t 0), none⟩,
  ⟨some 2, .mv (.c (.bool false)), none⟩])
 (.seq (.reg [⟨some 3, .fa 0 (.t 1), none⟩,
  ⟨some 4, .ld none (.t 3), none⟩,
  ⟨some 5, .bin .leq [] (.t 4) (.c (.int .u8 3)), none⟩,
  ⟨some 6, .mv (.t 5), none⟩,
  ⟨some 7, .fa 1 (.t 1), some (6, true)⟩,
  ⟨some 8, .ld none (.t 7), some (6, true)⟩,
  ⟨some 9, .bin .geq [] (.t 8) (.c (.int .u8 1)), some (6, true)⟩,
  ⟨some 10, .pick (.t 6) (.t 9) (.c (.bool false)), none⟩,
  ⟨some 11, .mv (.t 10), none⟩,
  ⟨some 12, .fa 1 (.t 1), some (11, true)⟩,
  ⟨some 13, .ld none (.t 12), some (11, true)⟩,
  ⟨some 14, .bin .leq [] (.t 13) (.c (.int .u8 4)), some (11, true)⟩,
  ⟨some 15, .pick (.t 11) (.t 14) (.c (.bool false)), none⟩,
  ⟨some 16, .mv (.t 15), none⟩,
  ⟨some 17, .fa 2 (.t 1), some (16, true)⟩,
  ⟨some 18, .ld none (.t 17), some (16, true)⟩,
  ⟨some 19, .bin .leq [] (.t 18) (.c (.int .u8 7)), some (16, true)⟩,
  ⟨some 20, .pick (.t 16) (.t 19) (.c (.bool false)), none⟩,
  ⟨some 2, .mv (.t 20), none⟩])
 (.ret)),
 [.tmp 2], true⟩
def M66 : MFunc := ⟨.seq (.reg [⟨some 2, .mv (.c .nils), none⟩])
 (.seq (.seq (.reg [⟨some 3, .mv (.t 0), none⟩,
  ⟨some 4, .bin .eql [3] (.t 3) (.c .nils), none⟩])
 (.cond (.t 4)
 (.seq (.reg [⟨some 2, .mv (.c .nils), none⟩])
 (.ret))
 (.skip)))
 (.seq (.reg [⟨some 5, .bsl (.ints .u8 [0]) 0 1 [], none⟩,
  ⟨some 6, .mv (.t 0), none⟩,
  ⟨some 7, .app (.ints .u8 [0]) 1 (.t 5) (.t 6), none⟩,
  ⟨some 2, .mv (.t 7), none⟩])
 (.ret))),
 [.tmp 2], true⟩
def M67 : MFunc := ⟨.seq (.reg [⟨some 2, .mv (.c .nils), none⟩])
 (.seq (.seq (.reg [⟨some 3, .mv (.t 0), none⟩,
  ⟨some 4, .bin .eql [3] (.t 3) (.c .nils), none⟩])
 (.cond (.t 4)
 (.seq (.reg [⟨some 2, .mv (.c .nils), none⟩])
 (.ret))
 (.skip)))
 (.seq (.reg [⟨some 5, .bsl (.ints .u8 [0]) 0 1 [], none⟩,
  ⟨some 6, .mv (.t 0), none⟩,
  ⟨some 7, .app (.ints .u8 [0]) 1 (.t 5) (.t 6), none⟩,
  ⟨some 2, .mv (.t 7), none⟩])
 (.ret))),
 [.tmp 2], true⟩
def M68 : MFunc := ⟨.seq (.reg [⟨some 2, .mv (.c (.bool false)), none⟩])
 (.seq (.reg [⟨some 3, .mv (.t 0), none⟩,
  ⟨some 4, .bin .rem [] (.t 3) (.c (.int .i64 4)), none⟩,
  ⟨some 5, .bin .eql [] (.t 4) (.c (.int .i64 0)), none⟩,
  ⟨some 6, .mv (.t 5), none⟩,
  ⟨some 7, .mv (.t 0), some (6, true)⟩,
  ⟨some 8, .bin .geq [] (.t 7) (.c (.int .i64 12)), some (6, true)⟩,
  ⟨some 9, .pick (.t 6) (.t 8) (.c (.bool false)), none⟩,
  ⟨some 10, .mv (.t 9), none⟩,
  ⟨some 11, .mv (.t 0), some (10, true)⟩,
  ⟨some 12, .bin .leq [] (.t 11) (.c (.int .i64 464)), some (10, true)⟩,
  ⟨some 13, .pick (.t 10) (.t 12) (.c (.bool false)), none⟩,
  ⟨some 2, .mv (.t 13), none⟩])
 (.ret)),
 [.tmp 2], true⟩
def M69 : MFunc := ⟨.seq (.reg [⟨some 2, .mv (.c (.int .i64 0)), none⟩,
  ⟨some 3, .mv (.c (.int .i64 0)), none⟩])
 (.seq (.seq (.reg [⟨some 7, .mv (.t 0), none⟩,
  ⟨some 8, .call 103 [(.t 7), (.f 104)], none⟩])
 (.cond (.t 8)
 (.seq (.reg [⟨some 2, .mv (.c (.int .i64 0)), none⟩,
  ⟨some 3, .mv (.c (.int .i64 1)), none⟩])
 (.ret))
 (.skip)))
 (.seq (.reg [⟨some 4, .mv (.c (.int .i64 0)), none⟩])
 (.seq (.seq (.reg [⟨some 9, .mv (.t 0), none⟩,
  ⟨some 10, .len none (.t 9), none⟩,
  ⟨some 11, .mv (.c (.int .i64 0)), none⟩])
 (.block 0 [4]
 (.loop [4, 9, 10, 11]
 (.seq (.reg [⟨some 12, .bin .lss [] (.t 11) (.t 10), none⟩])
 (.seq (.cond (.t 12)
 (.skip)
 (.exit 0))
 (.seq (.block 1 [4, 9, 10, 11]
 (.seq (.reg [⟨some 13, .ia none 1 (.t 9) (.t 11), none⟩,
  ⟨some 14, .ld none (.t 13), none⟩,
  ⟨some 6, .mv (.t 14), none⟩])
 (.reg [⟨some 15, .mv (.t 4), none⟩,
  ⟨some 16, .mv (.t 6), none⟩,
  ⟨some 17, .bin .add [] (.t 15) (.t 16), none⟩,
  ⟨some 4, .mv (.t 17), none⟩])))
 (.reg [⟨some 18, .bin .add [] (.t 11) (.c (.int .i64 1)), none⟩,
  ⟨some 11, .mv (.t 18), none⟩])))))))
 (.seq (.reg [⟨some 19, .mv (.t 4), none⟩,
  ⟨some 2, .mv (.t 19), none⟩,
  ⟨some 3, .mv (.c (.int .i64 0)), none⟩])
 (.ret))))),
 [.tmp 2, .tmp 3], true⟩
def M70 : MFunc := ⟨.seq (.reg [⟨some 8, .mv (.t 0), none⟩,
  ⟨some 9, .len none (.t 8), none⟩,
  ⟨some 10, .mv (.c (.int .i64 0)), none⟩])
 (.block 0 []
 (.loop [1, 2, 8, 9, 10]
 (.seq (.reg [⟨some 11, .bin .lss [] (.t 10) (.t 9), none⟩])
 (.seq (.cond (.t 11)
 (.skip)
 (.exit 0))
 (.seq (.block 1 [1, 2, 8, 9, 10]
 (.seq (.reg [⟨some 12, .mv (.t 10), none⟩,
  ⟨some 13, .ia none 1 (.t 8) (.t 10), none⟩,
  ⟨some 14, .ld none (.t 13), none⟩,
  ⟨some 6, .mv (.t 12), none⟩,
  ⟨some 7, .mv (.t 14), none⟩])
 (.seq (.seq (.reg [⟨some 15, .mv (.t 2), none⟩,
  ⟨some 16, .mv (.t 6), none⟩,
  ⟨some 17, .mv (.t 1), none⟩,
  ⟨some 18, .mv (.t 7), none⟩,
  ⟨some 19, .mv (.t 7), none⟩,
  ⟨some 20, .slc none 1 (.t 17) none (some (.t 18)) (some (.t 19)), none⟩,
  ⟨some 21, .calld (.t 15) [(.t 16), (.t 20)], none⟩,
  ⟨some 22, .un .not (.t 21), none⟩])
 (.cond (.t 22)
 (.ret)
 (.skip)))
 (.reg [⟨some 23, .mv (.t 1), none⟩,
  ⟨some 24, .mv (.t 7), none⟩,
  ⟨some 25, .slc none 1 (.t 23) (some (.t 24)) none none, none⟩,
  ⟨some 1, .mv (.t 25), none⟩]))))
 (.reg [⟨some 26, .bin .add [] (.t 10) (.c (.int .i64 1)), none⟩,
  ⟨some 10, .mv (.t 26), none⟩])))))),
 [], true⟩
def M71 : MFunc := ⟨.seq (.reg [⟨some 5, .mv (.c (.bool false)), none⟩])
 (.seq (.regd [(0, ⟨some 6, .ld none (.t 2), none⟩),
  (1, ⟨some 7, .mv (.t 1), none⟩),
  (2, ⟨some 8, .call 72 [(.t 7)], none⟩),
  (3, ⟨some 9, .bsl (.ints .u64 [0]) 1 1 [(0, 1, (.t 8))], none⟩),
  (4, ⟨some 10, .app (.ints .u64 [0]) 8 (.t 6) (.t 9), none⟩),
  (5, ⟨none, .st 1 (.t 2) (.t 10), none⟩)] [(0, 2)])
 (.seq (.reg [⟨some 5, .mv (.c (.bool true)), none⟩])
 (.ret))),
 [.tmp 5], true⟩
def M73 : MFunc := ⟨.seq (.reg [⟨some 1, .bx none 17 (.t 0), none⟩,
  ⟨some 2, .mv (.c .nils), none⟩,
  ⟨some 3, .mv (.c (.int .i64 0)), none⟩])
 (.seq (.seq (.reg [⟨some 5, .ld (some 17) (.t 1), none⟩,
  ⟨some 6, .call 65 [(.t 5)], none⟩,
  ⟨some 7, .un .not (.t 6), none⟩])
 (.cond (.t 7)
 (.seq (.reg [⟨some 2, .mv (.c .nils), none⟩,
  ⟨some 3, .mv (.c (.int .i64 1)), none⟩])
 (.ret))
 (.skip)))
 (.seq (.reg [⟨some 8, .fa 0 (.t 1), none⟩,
  ⟨some 9, .ld none (.t 8), none⟩,
  ⟨some 10, .ci .u64 (.t 9), none⟩,
  ⟨some 11, .bin .shl [] (.t 10) (.c (.int .u64 6)), none⟩,
  ⟨some 12, .fa 1 (.t 1), none⟩,
  ⟨some 13, .ld none (.t 12), none⟩,
  ⟨some 14, .ci .u64 (.t 13), none⟩,
  ⟨some 15, .bin .shl [] (.t 14) (.c (.int .u64 3)), none⟩,
  ⟨some 16, .bin .or [] (.t 11) (.t 15), none⟩,
  ⟨some 17, .fa 2 (.t 1), none⟩,
  ⟨some 18, .ld none (.t 17), none⟩,
  ⟨some 19, .ci .u64 (.t 18), none⟩,
  ⟨some 20, .bin .or [] (.t 16) (.t 19), none⟩,
  ⟨some 4, .mv (.t 20), none⟩])
 (.seq (.regd [(0, ⟨some 21, .slc (some 11) 1 (.g 1) none none none, none⟩),
  (1, ⟨some 22, .mv (.t 4), none⟩),
  (2, ⟨some 23, .fa 3 (.t 1), none⟩),
  (3, ⟨some 24, .ld none (.t 23), none⟩),
  (4, ⟨some 25, .ci .u64 (.t 24), none⟩),
  (5, ⟨some 26, .fa 4 (.t 1), none⟩),
  (6, ⟨some 27, .ld none (.t 26), none⟩),
  (7, ⟨some 28, .ci .u8 (.t 27), none⟩),
  (8, ⟨some 29, .ci .u64 (.t 28), none⟩),
  (9, ⟨some 30, .fa 5 (.t 1), none⟩),
  (10, ⟨some 31, .ld none (.t 30), none⟩),
  (11, ⟨some 32, .ci .u8 (.t 31), none⟩),
  (12, ⟨some 33, .ci .u64 (.t 32), none⟩),
  (13, ⟨some 34, .fa 6 (.t 1), none⟩),
  (14, ⟨some 35, .ld none (.t 34), none⟩),
  (15, ⟨some 36, .ci .u64 (.t 35), none⟩),
  (16, ⟨some 37, .fa 7 (.t 1), none⟩),
  (17, ⟨some 38, .ld none (.t 37), none⟩),
  (18, ⟨some 39, .ci .u64 (.t 38), none⟩),
  (19, ⟨some 40, .fa 8 (.t 1), none⟩),
  (20, ⟨some 41, .ld none (.t 40), none⟩),
  (21, ⟨some 42, .ci .u64 (.t 41), none⟩),
  (22, ⟨some 43, .fa 9 (.t 1), none⟩),
  (23, ⟨some 44, .ld none (.t 43), none⟩),
  (24, ⟨some 45, .fa 10 (.t 1), none⟩),
  (25, ⟨some 46, .ld none (.t 45), none⟩),
  (26, ⟨some 47, .fa 11 (.t 1), none⟩),
  (27, ⟨some 48, .ld none (.t 47), none⟩),
  (28, ⟨some 49, .fa 12 (.t 1), none⟩),
  (29, ⟨some 50, .ld none (.t 49), none⟩),
  (30, ⟨some 51, .bsl (.ints .u64 [0]) 11 1 [(0, 1, (.t 22)), (1, 1, (.t 25)), (2, 1, (.t 29)), (3, 1, (.t 33)), (4, 1, (.t 36)), (5, 1, (.t 39)), (6, 1, (.t 42)), (7, 1, (.t 44)), (8, 1, (.t 46)), (9, 1, (.t 48)), (10, 1, (.t 50))], none⟩),
  (31, ⟨some 52, .call 50 [(.t 21), (.t 51)], none⟩),
  (32, ⟨some 53, .ex 0 (.t 52), none⟩),
  (33, ⟨some 54, .ex 1 (.t 52), none⟩),
  (34, ⟨some 2, .mv (.t 53), none⟩),
  (35, ⟨some 3, .mv (.t 54), none⟩)] [])
 (.ret)))),
 [.tmp 2, .tmp 3], true⟩
def M74 : MFunc := ⟨.seq (.reg [⟨some 2, .mv (.c .nils), none⟩,
  ⟨some 3, .mv (.c (.int .i64 0)), none⟩])
 (.seq (.seq (.reg [⟨some 9, .mv (.t 0), none⟩,
  ⟨some 10, .call 87 [(.t 9)], none⟩,
  ⟨some 11, .un .not (.t 10), none⟩])
 (.cond (.t 11)
 (.seq (.reg [⟨some 2, .mv (.c .nils), none⟩,
  ⟨some 3, .mv (.c (.int .i64 1)), none⟩])
 (.ret))
 (.skip)))
 (.seq (.reg [⟨some 4, .mv (.c .nils), none⟩])
 (.seq (.seq (.reg [⟨some 12, .mv (.t 0), none⟩,
  ⟨some 13, .len none (.t 12), none⟩,
  ⟨some 14, .mv (.c (.int .i64 0)), none⟩])
 (.block 0 [4]
 (.loop [4, 12, 13, 14]
 (.seq (.reg [⟨some 15, .bin .lss [] (.t 14) (.t 13), none⟩])
 (.seq (.cond (.t 15)
 (.skip)
 (.exit 0))
 (.seq (.block 1 [4, 12, 13, 14]
 (.seq (.reg [⟨some 16, .ia none 2 (.t 12) (.t 14), none⟩,
  ⟨some 17, .ld (some 2) (.t 16), none⟩,
  ⟨some 6, .al (.vals [(.int .u16 0), .nils]), none⟩,
  ⟨none, .st 2 (.t 6) (.t 17), none⟩])
 (.seq (.reg [⟨some 19, .bsl (.ints .i64 [0]) 2 1 [(0, 1, (.c (.int .i64 2))), (1, 1, (.c (.int .i64 2)))], none⟩,
  ⟨some 20, .fa 0 (.t 6), none⟩,
  ⟨some 21, .ld none (.t 20), none⟩,
  ⟨some 22, .ci .u64 (.t 21), none⟩,
  ⟨some 23, .fa 1 (.t 6), none⟩,
  ⟨some 24, .ld none (.t 23), none⟩,
  ⟨some 25, .len none (.t 24), none⟩,
  ⟨some 26, .bin .add [] (.t 25) (.c (.int .i64 4)), none⟩,
  ⟨some 27, .ci .u64 (.t 26), none⟩,
  ⟨some 28, .bsl (.ints .u64 [0]) 2 1 [(0, 1, (.t 22)), (1, 1, (.t 27))], none⟩,
  ⟨some 29, .call 50 [(.t 19), (.t 28)], none⟩,
  ⟨some 18, .mv (.t 29), none⟩,
  ⟨some 30, .ex 0 (.t 18), none⟩,
  ⟨some 31, .ex 1 (.t 18), none⟩,
  ⟨some 7, .mv (.t 30), none⟩,
  ⟨some 8, .mv (.t 31), none⟩])
 (.regd [(0, ⟨some 32, .mv (.t 4), none⟩),
  (1, ⟨some 33, .mv (.t 7), none⟩),
  (2, ⟨some 34, .app (.ints .u8 [0]) 1 (.t 32) (.t 33), none⟩),
  (3, ⟨some 35, .fa 1 (.t 6), none⟩),
  (4, ⟨some 36, .ld none (.t 35), none⟩),
  (5, ⟨some 37, .app (.ints .u8 [0]) 1 (.t 34) (.t 36), none⟩),
  (6, ⟨some 4, .mv (.t 37), none⟩)] [(4, 2)]))))
 (.reg [⟨some 38, .bin .add [] (.t 14) (.c (.int .i64 1)), none⟩,
  ⟨some 14, .mv (.t 38), none⟩])))))))
 (.seq (.reg [⟨some 39, .mv (.t 4), none⟩,
  ⟨some 2, .mv (.t 39), none⟩,
  ⟨some 3, .mv (.c (.int .i64 0)), none⟩])
 (.ret))))),
 [.tmp 2, .tmp 3], true⟩
def M75 : MFunc := ⟨.seq (.regd [(0, ⟨some 4, .mv (.t 0), none⟩),
  (1, ⟨some 5, .nc (.t 4), none⟩),
  (2, ⟨some 6, .ia (some 4) 1 (.t 5) (.c (.int .i64 3)), none⟩),
  (3, ⟨some 7, .ld none (.t 6), none⟩),
  (4, ⟨some 8, .mv (.t 1), none⟩),
  (5, ⟨some 9, .bin .xor [] (.t 7) (.t 8), none⟩),
  (6, ⟨some 10, .nc (.t 4), none⟩),
  (7, ⟨some 11, .ia (some 4) 1 (.t 10) (.c (.int .i64 3)), none⟩),
  (8, ⟨none, .st 1 (.t 11) (.t 9), none⟩)] [])
 (.seq (.reg [⟨some 12, .mv (.t 0), none⟩,
  ⟨some 13, .call 76 [(.t 12), (.c (.int .i64 2))], none⟩])
 (.regd [(0, ⟨some 14, .mv (.t 0), none⟩),
  (1, ⟨some 15, .nc (.t 14), none⟩),
  (2, ⟨some 16, .ia (some 4) 1 (.t 15) (.c (.int .i64 0)), none⟩),
  (3, ⟨some 17, .ld none (.t 16), none⟩),
  (4, ⟨some 18, .mv (.t 1), none⟩),
  (5, ⟨some 19, .bin .xor [] (.t 17) (.t 18), none⟩),
  (6, ⟨some 20, .nc (.t 14), none⟩),
  (7, ⟨some 21, .ia (some 4) 1 (.t 20) (.c (.int .i64 0)), none⟩),
  (8, ⟨none, .st 1 (.t 21) (.t 19), none⟩)] [])),
 [], true⟩
def M76 : MFunc := ⟨.seq (.reg [⟨some 4, .mv (.t 1), none⟩,
  ⟨some 5, .mv (.c (.int .i64 0)), none⟩])
 (.block 0 []
 (.loop [0, 4, 5]
 (.seq (.reg [⟨some 6, .bin .lss [] (.t 5) (.t 4), none⟩])
 (.seq (.cond (.t 6)
 (.skip)
 (.exit 0))
 (.seq (.block 1 [0, 4, 5]
 (.reg [⟨some 7, .mv (.t 0), none⟩,
  ⟨some 8, .call 107 [(.t 7)], none⟩]))
 (.reg [⟨some 9, .bin .add [] (.t 5) (.c (.int .i64 1)), none⟩,
  ⟨some 5, .mv (.t 9), none⟩])))))),
 [], true⟩
def M77 : MFunc := ⟨.seq (.reg [⟨some 1, .bx none 17 (.t 0), none⟩,
  ⟨some 2, .al (.vals [(.int .u8 0), (.int .u8 0), (.int .u8 0), (.int .u8 0), (.int .i8 0), (.int .i8 0), (.int .u32 0), (.int .u32 0), (.int .u32 0), (.int .u64 0), (.int .u64 0), (.int .u64 0), (.int .u64 0)]), none⟩])
 (.seq (.reg [⟨some 3, .fa 0 (.t 1), none⟩,
  ⟨some 4, .ld none (.t 3), none⟩,
  ⟨some 5, .fa 1 (.t 1), none⟩,
  ⟨some 6, .ld none (.t 5), none⟩,
  ⟨some 7, .fa 2 (.t 1), none⟩,
  ⟨some 8, .ld none (.t 7), none⟩,
  ⟨some 9, .fa 3 (.t 1), none⟩,
  ⟨some 10, .ld none (.t 9), none⟩,
  ⟨some 11, .fa 4 (.t 1), none⟩,
  ⟨some 12, .ld none (.t 11), none⟩,
  ⟨some 13, .fa 5 (.t 1), none⟩,
  ⟨some 14, .ld none (.t 13), none⟩,
  ⟨some 15, .fa 6 (.t 1), none⟩,
  ⟨some 16, .ld none (.t 15), none⟩,
  ⟨some 17, .fa 7 (.t 1), none⟩,
  ⟨some 18, .ld none (.t 17), none⟩,
  ⟨some 19, .fa 8 (.t 1), none⟩,
  ⟨some 20, .ld none (.t 19), none⟩,
  ⟨some 21, .fa 9 (.t 1), none⟩,
  ⟨some 22, .ld none (.t 21), none⟩,
  ⟨some 23, .fa 10 (.t 1), none⟩,
  ⟨some 24, .ld none (.t 23), none⟩,
  ⟨some 25, .fa 11 (.t 1), none⟩,
  ⟨some 26, .ld none (.t 25), none⟩,
  ⟨some 27, .fa 12 (.t 1), none⟩,
  ⟨some 28, .ld none (.t 27), none⟩,
  ⟨some 29, .bld [(.int .u8 0), (.int .u8 0), (.int .u8 0), (.int .u8 0), (.int .i8 0), (.int .i8 0), (.int .u32 0), (.int .u32 0), (.int .u32 0), (.int .u64 0), (.int .u64 0), (.int .u64 0), (.int .u64 0)] [(0, 1, (.t 4)), (1, 1, (.t 6)), (2, 1, (.t 8)), (3, 1, (.t 10)), (4, 1, (.t 12)), (5, 1, (.t 14)), (6, 1, (.t 16)), (7, 1, (.t 18)), (8, 1, (.t 20)), (9, 1, (.t 22)), (10, 1, (.t 24)), (11, 1, (.t 26)), (12, 1, (.t 28))], none⟩,
  ⟨none, .st 13 (.t 2) (.t 29), none⟩])
 (.ret)),
 [.cell 2 (some 13)], true⟩
def M78 : MFunc := ⟨.seq (.reg [⟨some 6, .mv (.c (.bool false)), none⟩])
 (.seq (.seq (.reg [⟨some 10, .mv (.t 0), none⟩,
  ⟨some 11, .len none (.t 10), none⟩,
  ⟨some 12, .mv (.t 1), none⟩,
  ⟨some 13, .len none (.t 12), none⟩,
  ⟨some 14, .bin .neq [] (.t 11) (.t 13), none⟩])
 (.cond (.t 14)
 (.seq (.reg [⟨some 6, .mv (.c (.bool false)), none⟩])
 (.ret))
 (.skip)))
 (.seq (.seq (.reg [⟨some 15, .mv (.t 0), none⟩,
  ⟨some 16, .len none (.t 15), none⟩,
  ⟨some 17, .mv (.c (.int .i64 0)), none⟩])
 (.block 0 []
 (.loop [1, 2, 15, 16, 17]
 (.seq (.reg [⟨some 18, .bin .lss [] (.t 17) (.t 16), none⟩])
 (.seq (.cond (.t 18)
 (.skip)
 (.exit 0))
 (.seq (.block 1 [1, 2, 15, 16, 17]
 (.seq (.reg [⟨some 19, .mv (.t 17), none⟩,
  ⟨some 20, .ia none 2 (.t 15) (.t 17), none⟩,
  ⟨some 21, .ld (some 2) (.t 20), none⟩,
  ⟨some 8, .al (.vals [(.int .u16 0), .nils]), none⟩,
  ⟨some 7, .mv (.t 19), none⟩,
  ⟨none, .st 2 (.t 8) (.t 21), none⟩])
 (.seq (.reg [⟨some 22, .mv (.t 1), none⟩,
  ⟨some 23, .mv (.t 7), none⟩,
  ⟨some 24, .ia none 2 (.t 22) (.t 23), none⟩,
  ⟨some 25, .ld (some 2) (.t 24), none⟩,
  ⟨some 9, .al (.vals [(.int .u16 0), .nils]), none⟩,
  ⟨none, .st 2 (.t 9) (.t 25), none⟩])
 (.seq (.reg [⟨some 26, .mv (.t 2), none⟩,
  ⟨some 27, .ld (some 2) (.t 8), none⟩,
  ⟨some 28, .ld (some 2) (.t 9), none⟩,
  ⟨some 29, .calld (.t 26) [(.t 27), (.t 28)], none⟩,
  ⟨some 30, .un .not (.t 29), none⟩])
 (.cond (.t 30)
 (.seq (.reg [⟨some 6, .mv (.c (.bool false)), none⟩])
 (.ret))
 (.skip))))))
 (.reg [⟨some 31, .bin .add [] (.t 17) (.c (.int .i64 1)), none⟩,
  ⟨some 17, .mv (.t 31), none⟩])))))))
 (.seq (.reg [⟨some 6, .mv (.c (.bool true)), none⟩])
 (.ret)))),
 [.tmp 6], true⟩
def M79 : MFunc := ⟨.seq (.reg [⟨some 2, .bx none 2 (.t 0), none⟩,
  ⟨some 3, .bx none 2 (.t 1), none⟩,
  ⟨some 4, .mv (.c (.bool false)), none⟩])
 (.seq (.reg [⟨some 5, .fa 0 (.t 2), none⟩,
  ⟨some 6, .ld none (.t 5), none⟩,
  ⟨some 7, .fa 0 (.t 3), none⟩,
  ⟨some 8, .ld none (.t 7), none⟩,
  ⟨some 9, .bin .eql [] (.t 6) (.t 8), none⟩,
  ⟨some 10, .mv (.t 9), none⟩,
  ⟨some 11, .fa 1 (.t 2), some (10, true)⟩,
  ⟨some 12, .ld none (.t 11), some (10, true)⟩,
  ⟨some 13, .fa 1 (.t 3), some (10, true)⟩,
  ⟨some 14, .ld none (.t 13), some (10, true)⟩,
  ⟨some 15, .call 80 [(.t 12), (.t 14)], some (10, true)⟩,
  ⟨some 16, .pick (.t 10) (.t 15) (.c (.bool false)), none⟩,
  ⟨some 4, .mv (.t 16), none⟩])
 (.ret)),
 [.tmp 4], true⟩
def M80 : MFunc := ⟨.seq (.reg [⟨some 4, .mv (.c (.bool false)), none⟩])
 (.seq (.reg [⟨some 5, .mv (.t 0), none⟩,
  ⟨some 6, .cstr (.t 5), none⟩,
  ⟨some 7, .mv (.t 1), none⟩,
  ⟨some 8, .cstr (.t 7), none⟩,
  ⟨some 9, .bin .eql [] (.t 6) (.t 8), none⟩,
  ⟨some 4, .mv (.t 9), none⟩])
 (.ret)),
 [.tmp 4], true⟩
def M81 : MFunc := ⟨.seq (.reg [⟨some 4, .mv (.c (.str ⟨#[]⟩)), none⟩])
 (.seq (.block 0 [0]
 (.loop [0, 1]
 (.seq (.seq (.reg [⟨some 5, .mv (.t 0), none⟩,
  ⟨some 6, .lens (.t 5), none⟩,
  ⟨some 7, .bin .gtr [] (.t 6) (.c (.int .i64 0)), none⟩,
  ⟨some 8, .mv (.t 7), none⟩,
  ⟨some 9, .mv (.t 0), some (8, true)⟩,
  ⟨some 10, .mv (.t 0), some (8, true)⟩,
  ⟨some 11, .lens (.t 10), some (8, true)⟩,
  ⟨some 12, .bin .sub [] (.t 11) (.c (.int .i64 1)), some (8, true)⟩,
  ⟨some 13, .ixs (.t 9) (.t 12), some (8, true)⟩,
  ⟨some 14, .mv (.t 1), some (8, true)⟩,
  ⟨some 15, .bin .eql [] (.t 13) (.t 14), some (8, true)⟩,
  ⟨some 16, .pick (.t 8) (.t 15) (.c (.bool false)), none⟩])
 (.cond (.t 16)
 (.skip)
 (.exit 0)))
 (.block 1 [0, 1]
 (.reg [⟨some 17, .mv (.t 0), none⟩,
  ⟨some 18, .mv (.t 0), none⟩,
  ⟨some 19, .lens (.t 18), none⟩,
  ⟨some 20, .bin .sub [] (.t 19) (.c (.int .i64 1)), none⟩,
  ⟨some 21, .slstr (.t 17) none (some (.t 20)), none⟩,
  ⟨some 0, .mv (.t 21), none⟩])))))
 (.seq (.reg [⟨some 22, .mv (.t 0), none⟩,
  ⟨some 4, .mv (.t 22), none⟩])
 (.ret))),
 [.tmp 4], true⟩
def M82 : MFunc := ⟨.seq (.reg [⟨some 2, .al (.vals [(.bool false), (.bool false), (.bool false), (.bool false), (.bool false), (.bool false), (.bool false), (.bool false), (.bool false), (.bool false), (.bool false), (.bool false), (.bool false), (.bool false), (.bool false), (.bool false), (.bool false), (.bool false), (.bool false), (.bool false), (.bool false), (.bool false), (.bool false), (.bool false), (.bool false), (.bool false), (.bool false), (.bool false), (.bool false), (.bool false), (.bool false), (.bool false), (.bool false), (.bool false), (.bool false), (.bool false), (.bool false), (.bool false), (.bool false), (.bool false), (.bool false), (.bool false), (.bool false), (.bool false), (.bool false), (.bool false), (.bool false), (.bool false), (.bool false), (.bool false), (.bool false), (.bool false), (.bool false), (.bool false), (.bool false), (.bool false), (.bool false), (.bool false), (.bool false), (.bool false), (.bool false), (.bool false), (.bool false), (.bool false), (.bool false), (.bool false), (.bool false), (.bool false), (.bool false), (.bool false), (.bool false), (.bool false), (.bool false), (.bool false), (.bool false), (.bool false), (.bool false), (.bool false), (.bool false), (.bool false), (.bool false), (.bool false), (.bool false), (.bool false), (.bool false), (.bool false), (.bool false), (.bool false), (.bool false), (.bool false), (.bool false), (.bool false), (.bool false), (.bool false), (.bool false), (.bool false), (.bool false), (.bool false), (.bool false), (.bool false), (.bool false), (.bool false), (.bool false), (.bool false), (.bool false), (.bool false), (.bool false), (.bool false), (.bool false), (.bool false), (.bool false), (.bool false), (.bool false), (.bool false), (.bool false), (.bool false), (.bool false), (.bool false), (.bool false), (.bool false), (.bool false), (.bool false), (.bool false), (.bool false), (.bool false), (.bool false), (.bool false), (.bool false), (.bool false), (.bool false), (.bool false), (.bool false), (.bool false), (.bool false), (.bool false), (.bool false), (.bool false), (.bool false), (.bool false), (.bool false), (.bool false), (.bool false), (.bool false), (.bool false), (.bool false), (.bool false), (.bool false), (.bool false), (.bool false), (.bool false), (.bool false), (.bool false), (.bool false), (.bool false), (.bool false), (.bool false), (.bool false), (.bool false), (.bool false), (.bool false), (.bool false), (.bool false), (.bool false), (.bool false), (.bool false), (.bool false), (.bool false), (.bool false), (.bool false), (.bool false), (.bool false), (.bool false), (.bool false), (.bool false), (.bool false), (.bool false), (.bool false), (.bool false), (.bool false), (.bool false), (.bool false), (.bool false), (.bool false), (.bool false), (.bool false), (.bool false), (.bool false), (.bool false), (.bool false), (.bool false), (.bool false), (.bool false), (.bool false), (.bool false), (.bool false), (.bool false), (.bool false), (.bool false), (.bool false), (.bool false), (.bool false), (.bool false), (.bool false), (.bool false), (.bool false), (.bool false), (.bool false), (.bool false), (.bool false), (.bool false), (.bool false), (.bool false), (.bool false), (.bool false), (.bool false), (.bool false), (.bool false), (.bool false), (.bool false), (.bool false), (.bool false), (.bool false), (.bool false), (.bool false), (.bool false), (.bool false), (.bool false), (.bool false), (.bool false), (.bool false), (.bool false), (.bool false), (.bool false), (.bool false), (.bool false), (.bool false), (.bool false), (.bool false), (.bool false), (.bool false), (.bool false), (.bool false), (.bool false), (.bool false), (.bool false), (.bool false), (.bool false), (.bool false), (.bool false), (.bool false), (.bool false), (.bool false), (.bool false), (.bool false), (.bool false), (.bool false)]), none⟩,
  ⟨some 3, .mv (.c (.bool false)), none⟩])
 (.seq (.seq (.reg [⟨some 4, .mv (.c (.int .i64 0)), none⟩])
 (.block 0 [2]
 (.loop [0, 2, 4]
 (.seq (.seq (.reg [⟨some 6, .mv (.t 4), none⟩,
  ⟨some 7, .mv (.t 0), none⟩,
  ⟨some 8, .lens (.t 7), none⟩,
  ⟨some 9, .bin .lss [] (.t 6) (.t 8), none⟩])
 (.cond (.t 9)
 (.skip)
 (.exit 0)))
 (.seq (.block 1 [0, 2, 4]
 (.seq (.reg [⟨some 12, .mv (.t 0), none⟩,
  ⟨some 13, .mv (.t 4), none⟩,
  ⟨some 14, .ixs (.t 12) (.t 13), none⟩,
  ⟨some 5, .mv (.t 14), none⟩])
 (.seq (.seq (.reg [⟨some 15, .mv (.t 5), none⟩,
  ⟨some 16, .bin .geq [] (.t 15) (.c (.int .u8 128)), none⟩])
 (.cond (.t 16)
 (.seq (.reg [⟨some 17, .ld (some 256) (.t 2), none⟩,
  ⟨none, .st 256 (.t 2) (.t 17), none⟩,
  ⟨some 3, .mv (.c (.bool false)), none⟩])
 (.ret))
 (.skip)))
 (.reg [⟨some 18, .mv (.t 5), none⟩,
  ⟨some 19, .ia (some 256) 1 (.t 2) (.t 18), none⟩,
  ⟨none, .st 1 (.t 19) (.c (.bool true)), none⟩]))))
 (.reg [⟨some 10, .mv (.t 4), none⟩,
  ⟨some 11, .bin .add [] (.t 10) (.c (.int .i64 1)), none⟩,
  ⟨some 4, .mv (.t 11), none⟩]))))))
 (.seq (.reg [⟨some 20, .ld (some 256) (.t 2), none⟩,
  ⟨none, .st 256 (.t 2) (.t 20), none⟩,
  ⟨some 3, .mv (.c (.bool true)), none⟩])
 (.ret))),
 [.cell 2 (some 256), .tmp 3], true⟩
def M83 : MFunc := ⟨.seq (.reg [⟨some 4, .mv (.c (.str ⟨#[]⟩)), none⟩])
 (.seq (.block 0 [0]
 (.loop [0, 1]
 (.seq (.seq (.reg [⟨some 5, .mv (.t 0), none⟩,
  ⟨some 6, .lens (.t 5), none⟩,
  ⟨some 7, .bin .gtr [] (.t 6) (.c (.int .i64 0)), none⟩])
 (.cond (.t 7)
 (.skip)
 (.exit 0)))
 (.block 1 [0, 1]
 (.seq (.seq (.reg [⟨some 8, .mv (.t 1), none⟩,
  ⟨some 9, .mv (.t 0), none⟩,
  ⟨some 10, .mv (.t 0), none⟩,
  ⟨some 11, .lens (.t 10), none⟩,
  ⟨some 12, .bin .sub [] (.t 11) (.c (.int .i64 1)), none⟩,
  ⟨some 13, .ixs (.t 9) (.t 12), none⟩,
  ⟨some 14, .call 108 [(.t 8), (.t 13)], none⟩,
  ⟨some 15, .un .not (.t 14), none⟩])
 (.cond (.t 15)
 (.exit 0)
 (.skip)))
 (.reg [⟨some 16, .mv (.t 0), none⟩,
  ⟨some 17, .mv (.t 0), none⟩,
  ⟨some 18, .lens (.t 17), none⟩,
  ⟨some 19, .bin .sub [] (.t 18) (.c (.int .i64 1)), none⟩,
  ⟨some 20, .slstr (.t 16) none (some (.t 19)), none⟩,
  ⟨some 0, .mv (.t 20), none⟩]))))))
 (.seq (.reg [⟨some 21, .mv (.t 0), none⟩,
  ⟨some 4, .mv (.t 21), none⟩])
 (.ret))),
 [.tmp 4], true⟩
def M84 : MFunc := ⟨.seq (.reg [⟨some 4, .mv (.c (.str ⟨#[]⟩)), none⟩])
 (.seq (.block 0 [0]
 (.loop [0, 1]
 (.seq (.seq (.reg [⟨some 7, .mv (.t 0), none⟩,
  ⟨some 8, .lens (.t 7), none⟩,
  ⟨some 9, .bin .gtr [] (.t 8) (.c (.int .i64 0)), none⟩])
 (.cond (.t 9)
 (.skip)
 (.exit 0)))
 (.block 1 [0, 1]
 (.seq (.reg [⟨some 10, .mv (.t 0), none⟩,
  ⟨some 11, .mv (.t 0), none⟩,
  ⟨some 12, .lens (.t 11), none⟩,
  ⟨some 13, .bin .sub [] (.t 12) (.c (.int .i64 1)), none⟩,
  ⟨some 14, .ixs (.t 10) (.t 13), none⟩,
  ⟨some 15, .ci .i32 (.t 14), none⟩,
  ⟨some 5, .mv (.t 15), none⟩,
  ⟨some 6, .mv (.c (.int .i64 1)), none⟩])
 (.seq (.seq (.reg [⟨some 16, .mv (.t 5), none⟩,
  ⟨some 17, .bin .geq [] (.t 16) (.c (.int .i32 128)), none⟩])
 (.cond (.t 17)
 (.reg [⟨some 19, .mv (.t 0), none⟩,
  ⟨some 20, .call 109 [(.t 19)], none⟩,
  ⟨some 18, .mv (.t 20), none⟩,
  ⟨some 21, .ex 0 (.t 18), none⟩,
  ⟨some 22, .ex 1 (.t 18), none⟩,
  ⟨some 5, .mv (.t 21), none⟩,
  ⟨some 6, .mv (.t 22), none⟩])
 (.skip)))
 (.seq (.seq (.reg [⟨some 23, .mv (.t 1), none⟩,
  ⟨some 24, .mv (.t 5), none⟩,
  ⟨some 25, .call 110 [(.t 23), (.t 24)], none⟩,
  ⟨some 26, .un .not (.t 25), none⟩])
 (.cond (.t 26)
 (.exit 0)
 (.skip)))
 (.reg [⟨some 27, .mv (.t 0), none⟩,
  ⟨some 28, .mv (.t 0), none⟩,
  ⟨some 29, .lens (.t 28), none⟩,
  ⟨some 30, .mv (.t 6), none⟩,
  ⟨some 31, .bin .sub [] (.t 29) (.t 30), none⟩,
  ⟨some 32, .slstr (.t 27) none (some (.t 31)), none⟩,
  ⟨some 0, .mv (.t 32), none⟩]))))))))
 (.seq (.reg [⟨some 33, .mv (.t 0), none⟩,
  ⟨some 4, .mv (.t 33), none⟩])
 (.ret))),
 [.tmp 4], true⟩
def M85 : MFunc := ⟨.seq (.reg [⟨some 1, .mv (.c (.bool false)), none⟩])
 (.seq (.reg [⟨some 2, .ld (some 17) (.t 0), none⟩,
  ⟨some 3, .call 65 [(.t 2)], none⟩,
  ⟨some 1, .mv (.t 3), none⟩])
 (.ret)),
 [.tmp 1], true⟩
def M86 : MFunc := ⟨.seq (.reg [⟨some 1, .mv (.c (.bool false)), none⟩])
 (.seq (.reg [⟨some 2, .fa 13 (.t 0), none⟩,
  ⟨some 3, .ld none (.t 2), none⟩,
  ⟨some 4, .call 87 [(.t 3)], none⟩,
  ⟨some 1, .mv (.t 4), none⟩])
 (.ret)),
 [.tmp 1], true⟩
def M87 : MFunc := ⟨.seq (.reg [⟨some 2, .mv (.c (.bool false)), none⟩])
 (.seq (.reg [⟨some 3, .mv (.t 0), none⟩,
  ⟨some 4, .len none (.t 3), none⟩,
  ⟨some 5, .bin .leq [] (.t 4) (.c (.int .i64 8)), none⟩,
  ⟨some 6, .mv (.t 5), none⟩,
  ⟨some 7, .mv (.t 0), some (6, true)⟩,
  ⟨some 8, .call 111 [(.t 7), (.f 112)], some (6, true)⟩,
  ⟨some 9, .un .not (.t 8), some (6, true)⟩,
  ⟨some 10, .pick (.t 6) (.t 9) (.c (.bool false)), none⟩,
  ⟨some 2, .mv (.t 10), none⟩])
 (.ret)),
 [.tmp 2], true⟩
def M88 : MFunc := ⟨.seq (.reg [⟨some 1, .mv (.c (.bool false)), none⟩])
 (.seq (.reg [⟨some 2, .fa 14 (.t 0), none⟩,
  ⟨some 3, .ld none (.t 2), none⟩,
  ⟨some 4, .fa 15 (.t 0), none⟩,
  ⟨some 5, .ld none (.t 4), none⟩,
  ⟨some 6, .bin .neq [] (.t 5) (.c (.int .u32 0)), none⟩,
  ⟨some 7, .bin .eql [1] (.t 3) (.t 6), none⟩,
  ⟨some 1, .mv (.t 7), none⟩])
 (.ret)),
 [.tmp 1], true⟩
def M89 : MFunc := ⟨.seq (.reg [⟨some 1, .mv (.c (.bool false)), none⟩])
 (.seq (.reg [⟨some 2, .fa 14 (.t 0), none⟩,
  ⟨some 3, .ld none (.t 2), none⟩,
  ⟨some 4, .mv (.t 3), none⟩,
  ⟨some 5, .fa 16 (.t 0), some (4, false)⟩,
  ⟨some 6, .ld none (.t 5), some (4, false)⟩,
  ⟨some 7, .bin .eql [] (.t 6) (.c (.int .u64 0)), some (4, false)⟩,
  ⟨some 8, .pick (.t 4) (.c (.bool true)) (.t 7), none⟩,
  ⟨some 1, .mv (.t 8), none⟩])
 (.ret)),
 [.tmp 1], true⟩
def M90 : MFunc := ⟨.seq (.reg [⟨some 6, .mv (.c (.bool false)), none⟩])
 (.seq (.seq (.reg [⟨some 7, .ld none (.t 2), none⟩,
  ⟨some 8, .mv (.t 0), none⟩,
  ⟨some 9, .ia none 1 (.t 7) (.t 8), none⟩,
  ⟨some 10, .ld none (.t 9), none⟩,
  ⟨some 11, .mv (.t 1), none⟩,
  ⟨some 12, .len none (.t 11), none⟩,
  ⟨some 13, .call 91 [(.t 10), (.t 12)], none⟩,
  ⟨some 14, .un .not (.t 13), none⟩])
 (.cond (.t 14)
 (.seq (.reg [⟨none, .st 1 (.t 3) (.c (.int .i64 20)), none⟩])
 (.seq (.reg [⟨some 6, .mv (.c (.bool false)), none⟩])
 (.ret)))
 (.skip)))
 (.seq (.reg [⟨some 15, .mv (.t 1), none⟩,
  ⟨some 16, .ld none (.t 2), none⟩,
  ⟨some 17, .mv (.t 0), none⟩,
  ⟨some 18, .ia none 1 (.t 16) (.t 17), none⟩,
  ⟨some 19, .ld none (.t 18), none⟩,
  ⟨some 20, .call 92 [(.t 15), (.t 19)], none⟩])
 (.seq (.reg [⟨some 6, .mv (.c (.bool true)), none⟩])
 (.ret)))),
 [.tmp 6], true⟩
def M91 : MFunc := ⟨.seq (.reg [⟨some 4, .mv (.c (.bool false)), none⟩])
 (.seq (.reg [⟨some 5, .mv (.t 1), none⟩,
  ⟨some 6, .bin .eql [] (.t 5) (.c (.int .i64 8)), none⟩,
  ⟨some 7, .mv (.t 6), none⟩,
  ⟨some 8, .mv (.t 0), some (7, false)⟩,
  ⟨some 9, .mv (.t 1), some (7, false)⟩,
  ⟨some 10, .bin .mul [] (.c (.int .i64 8)) (.t 9), some (7, false)⟩,
  ⟨some 11, .bin .shr [] (.t 8) (.t 10), some (7, false)⟩,
  ⟨some 12, .bin .eql [] (.t 11) (.c (.int .u64 0)), some (7, false)⟩,
  ⟨some 13, .pick (.t 7) (.c (.bool true)) (.t 12), none⟩,
  ⟨some 4, .mv (.t 13), none⟩])
 (.ret)),
 [.tmp 4], true⟩
def M93 : MFunc := ⟨.seq (.reg [⟨some 2, .mv (.c (.int .i64 0)), none⟩])
 (.seq (.reg [⟨some 3, .mv (.t 0), none⟩,
  ⟨some 4, .call 113 [(.t 3)], none⟩,
  ⟨some 5, .bin .sub [] (.c (.int .i64 64)) (.t 4), none⟩,
  ⟨some 2, .mv (.t 5), none⟩])
 (.ret)),
 [.tmp 2], true⟩
def M103 : MFunc := ⟨.seq (.reg [⟨some 4, .mv (.c (.bool false)), none⟩])
 (.seq (.reg [⟨some 5, .mv (.t 0), none⟩,
  ⟨some 6, .mv (.t 1), none⟩,
  ⟨some 7, .call 118 [(.t 5), (.t 6)], none⟩,
  ⟨some 8, .bin .geq [] (.t 7) (.c (.int .i64 0)), none⟩,
  ⟨some 4, .mv (.t 8), none⟩])
 (.ret)),
 [.tmp 4], true⟩
def M104 : MFunc := ⟨.seq (.reg [⟨some 2, .mv (.c (.bool false)), none⟩])
 (.seq (.reg [⟨some 3, .mv (.t 0), none⟩,
  ⟨some 4, .call 105 [(.t 3)], none⟩,
  ⟨some 5, .un .not (.t 4), none⟩,
  ⟨some 2, .mv (.t 5), none⟩])
 (.ret)),
 [.tmp 2], true⟩
def M105 : MFunc := ⟨.seq (.reg [⟨some 2, .mv (.c (.bool false)), none⟩])
 (.seq (.reg [⟨some 3, .mv (.t 0), none⟩,
  ⟨some 4, .bin .gtr [] (.t 3) (.c (.int .i64 0)), none⟩,
  ⟨some 5, .mv (.t 4), none⟩,
  ⟨some 6, .mv (.t 0), some (5, true)⟩,
  ⟨some 7, .bin .leq [] (.t 6) (.c (.int .i64 8)), some (5, true)⟩,
  ⟨some 8, .pick (.t 5) (.t 7) (.c (.bool false)), none⟩,
  ⟨some 2, .mv (.t 8), none⟩])
 (.ret)),
 [.tmp 2], true⟩
def M107 : MFunc := ⟨.seq (.reg [⟨some 1, .bx none 1 (.t 0), none⟩])
 (.seq (.reg [⟨some 3, .mf 120 [(.t 1)], none⟩,
  ⟨some 2, .mv (.t 3), none⟩])
 (.seq (.reg [⟨some 4, .mv (.t 2), none⟩,
  ⟨some 5, .calld (.t 4) [(.c (.int .i64 0)), (.c (.int .i64 1)), (.c (.int .i64 2)), (.c (.int .i64 3)), (.c (.int .i64 13)), (.c (.int .i64 16))], none⟩])
 (.reg [⟨some 6, .mv (.t 2), none⟩,
  ⟨some 7, .calld (.t 6) [(.c (.int .i64 2)), (.c (.int .i64 1)), (.c (.int .i64 0)), (.c (.int .i64 3)), (.c (.int .i64 17)), (.c (.int .i64 21))], none⟩]))),
 [], true⟩
def M108 : MFunc := ⟨.seq (.reg [⟨some 4, .mv (.c (.bool false)), none⟩])
 (.seq (.reg [⟨some 5, .mv (.t 0), none⟩,
  ⟨some 6, .mv (.t 1), none⟩,
  ⟨some 7, .nc (.t 5), none⟩,
  ⟨some 8, .ia (some 256) 1 (.t 7) (.t 6), none⟩,
  ⟨some 9, .ld none (.t 8), none⟩,
  ⟨some 4, .mv (.t 9), none⟩])
 (.ret)),
 [.tmp 4], true⟩
def M109 : MFunc := ⟨.seq (.reg [⟨some 2, .mv (.c (.int .i32 0)), none⟩,
  ⟨some 3, .mv (.c (.int .i64 0)), none⟩])
 (.seq (.reg [⟨some 7, .mv (.t 0), none⟩,
  ⟨some 8, .lens (.t 7), none⟩,
  ⟨some 4, .mv (.t 8), none⟩])
 (.seq (.seq (.reg [⟨some 9, .mv (.t 4), none⟩,
  ⟨some 10, .bin .eql [] (.t 9) (.c (.int .i64 0)), none⟩])
 (.cond (.t 10)
 (.seq (.reg [⟨some 2, .mv (.c (.int .i32 65533)), none⟩,
  ⟨some 3, .mv (.c (.int .i64 0)), none⟩])
 (.ret))
 (.skip)))
 (.seq (.reg [⟨some 11, .mv (.t 4), none⟩,
  ⟨some 12, .bin .sub [] (.t 11) (.c (.int .i64 1)), none⟩,
  ⟨some 5, .mv (.t 12), none⟩])
 (.seq (.reg [⟨some 13, .mv (.t 0), none⟩,
  ⟨some 14, .mv (.t 5), none⟩,
  ⟨some 15, .ixs (.t 13) (.t 14), none⟩,
  ⟨some 16, .ci .i32 (.t 15), none⟩,
  ⟨some 2, .mv (.t 16), none⟩])
 (.seq (.seq (.reg [⟨some 17, .mv (.t 2), none⟩,
  ⟨some 18, .bin .lss [] (.t 17) (.c (.int .i32 128)), none⟩])
 (.cond (.t 18)
 (.seq (.reg [⟨some 19, .mv (.t 2), none⟩,
  ⟨some 2, .mv (.t 19), none⟩,
  ⟨some 3, .mv (.c (.int .i64 1)), none⟩])
 (.ret))
 (.skip)))
 (.seq (.reg [⟨some 20, .mv (.t 4), none⟩,
  ⟨some 21, .bin .sub [] (.t 20) (.c (.int .i64 4)), none⟩,
  ⟨some 22, .mnx true [(.t 21), (.c (.int .i64 0))], none⟩,
  ⟨some 6, .mv (.t 22), none⟩])
 (.seq (.seq (.reg [⟨some 23, .mv (.t 5), none⟩,
  ⟨some 24, .bin .sub [] (.t 23) (.c (.int .i64 1)), none⟩,
  ⟨some 5, .mv (.t 24), none⟩])
 (.block 0 [0, 4, 5]
 (.loop [0, 4, 5, 6]
 (.seq (.seq (.reg [⟨some 25, .mv (.t 5), none⟩,
  ⟨some 26, .mv (.t 6), none⟩,
  ⟨some 27, .bin .geq [] (.t 25) (.t 26), none⟩])
 (.cond (.t 27)
 (.skip)
 (.exit 0)))
 (.seq (.block 1 [0, 4, 5, 6]
 (.seq (.reg [⟨some 30, .mv (.t 0), none⟩,
  ⟨some 31, .mv (.t 5), none⟩,
  ⟨some 32, .ixs (.t 30) (.t 31), none⟩,
  ⟨some 33, .call 122 [(.t 32)], none⟩])
 (.cond (.t 33)
 (.exit 0)
 (.skip))))
 (.reg [⟨some 28, .mv (.t 5), none⟩,
  ⟨some 29, .bin .sub [] (.t 28) (.c (.int .i64 1)), none⟩,
  ⟨some 5, .mv (.t 29), none⟩]))))))
 (.seq (.seq (.reg [⟨some 34, .mv (.t 5), none⟩,
  ⟨some 35, .bin .lss [] (.t 34) (.c (.int .i64 0)), none⟩])
 (.cond (.t 35)
 (.reg [⟨some 5, .mv (.c (.int .i64 0)), none⟩])
 (.skip)))
 (.seq (.reg [⟨some 37, .mv (.t 0), none⟩,
  ⟨some 38, .mv (.t 5), none⟩,
  ⟨some 39, .mv (.t 4), none⟩,
  ⟨some 40, .slstr (.t 37) (some (.t 38)) (some (.t 39)), none⟩,
  ⟨some 41, .call 123 [(.t 40)], none⟩,
  ⟨some 36, .mv (.t 41), none⟩,
  ⟨some 42, .ex 0 (.t 36), none⟩,
  ⟨some 43, .ex 1 (.t 36), none⟩,
  ⟨some 2, .mv (.t 42), none⟩,
  ⟨some 3, .mv (.t 43), none⟩])
 (.seq (.seq (.reg [⟨some 44, .mv (.t 5), none⟩,
  ⟨some 45, .mv (.t 3), none⟩,
  ⟨some 46, .bin .add [] (.t 44) (.t 45), none⟩,
  ⟨some 47, .mv (.t 4), none⟩,
  ⟨some 48, .bin .neq [] (.t 46) (.t 47), none⟩])
 (.cond (.t 48)
 (.seq (.reg [⟨some 2, .mv (.c (.int .i32 65533)), none⟩,
  ⟨some 3, .mv (.c (.int .i64 1)), none⟩])
 (.ret))
 (.skip)))
 (.seq (.reg [⟨some 49, .mv (.t 2), none⟩,
  ⟨some 50, .mv (.t 3), none⟩,
  ⟨some 2, .mv (.t 49), none⟩,
  ⟨some 3, .mv (.t 50), none⟩])
 (.ret)))))))))))),
 [.tmp 2, .tmp 3], true⟩
def M110 : MFunc := ⟨.seq (.reg [⟨some 4, .mv (.c (.bool false)), none⟩])
 (.seq (.reg [⟨some 5, .mv (.t 0), none⟩,
  ⟨some 6, .mv (.t 1), none⟩,
  ⟨some 7, .call 124 [(.t 5), (.t 6)], none⟩,
  ⟨some 8, .bin .geq [] (.t 7) (.c (.int .i64 0)), none⟩,
  ⟨some 4, .mv (.t 8), none⟩])
 (.ret)),
 [.tmp 4], true⟩
def M111 : MFunc := ⟨.seq (.reg [⟨some 4, .mv (.c (.bool false)), none⟩])
 (.seq (.reg [⟨some 5, .mv (.t 0), none⟩,
  ⟨some 6, .mv (.t 1), none⟩,
  ⟨some 7, .call 125 [(.t 5), (.t 6)], none⟩,
  ⟨some 8, .bin .geq [] (.t 7) (.c (.int .i64 0)), none⟩,
  ⟨some 4, .mv (.t 8), none⟩])
 (.ret)),
 [.tmp 4], true⟩
def M112 : MFunc := ⟨.seq (.reg [⟨some 1, .bx none 2 (.t 0), none⟩,
  ⟨some 2, .mv (.c (.bool false)), none⟩])
 (.seq (.reg [⟨some 3, .fa 1 (.t 1), none⟩,
  ⟨some 4, .ld none (.t 3), none⟩,
  ⟨some 5, .len none (.t 4), none⟩,
  ⟨some 6, .call 68 [(.t 5)], none⟩,
  ⟨some 7, .un .not (.t 6), none⟩,
  ⟨some 2, .mv (.t 7), none⟩])
 (.ret)),
 [.tmp 2], true⟩
def M113 : MFunc := ⟨.seq (.reg [⟨some 2, .mv (.c (.int .i64 0)), none⟩])
 (.seq (.seq (.reg [⟨some 3, .mv (.t 0), none⟩,
  ⟨some 4, .bin .geq [] (.t 3) (.c (.int .u64 4294967296)), none⟩])
 (.cond (.t 4)
 (.seq (.reg [⟨some 5, .mv (.t 0), none⟩,
  ⟨some 6, .bin .shr [] (.t 5) (.c (.int .u64 32)), none⟩,
  ⟨some 0, .mv (.t 6), none⟩])
 (.reg [⟨some 2, .mv (.c (.int .i64 32)), none⟩]))
 (.skip)))
 (.seq (.seq (.reg [⟨some 7, .mv (.t 0), none⟩,
  ⟨some 8, .bin .geq [] (.t 7) (.c (.int .u64 65536)), none⟩])
 (.cond (.t 8)
 (.seq (.reg [⟨some 9, .mv (.t 0), none⟩,
  ⟨some 10, .bin .shr [] (.t 9) (.c (.int .u64 16)), none⟩,
  ⟨some 0, .mv (.t 10), none⟩])
 (.reg [⟨some 11, .mv (.t 2), none⟩,
  ⟨some 12, .bin .add [] (.t 11) (.c (.int .i64 16)), none⟩,
  ⟨some 2, .mv (.t 12), none⟩]))
 (.skip)))
 (.seq (.seq (.reg [⟨some 13, .mv (.t 0), none⟩,
  ⟨some 14, .bin .geq [] (.t 13) (.c (.int .u64 256)), none⟩])
 (.cond (.t 14)
 (.seq (.reg [⟨some 15, .mv (.t 0), none⟩,
  ⟨some 16, .bin .shr [] (.t 15) (.c (.int .u64 8)), none⟩,
  ⟨some 0, .mv (.t 16), none⟩])
 (.reg [⟨some 17, .mv (.t 2), none⟩,
  ⟨some 18, .bin .add [] (.t 17) (.c (.int .i64 8)), none⟩,
  ⟨some 2, .mv (.t 18), none⟩]))
 (.skip)))
 (.seq (.reg [⟨some 19, .mv (.t 2), none⟩,
  ⟨some 20, .mv (.t 0), none⟩,
  ⟨some 21, .ci .u8 (.t 20), none⟩,
  ⟨some 22, .ixs (.c (.str ⟨#[0, 1, 2, 2, 3, 3, 3, 3, 4, 4, 4, 4, 4, 4, 4, 4, 5, 5, 5, 5, 5, 5, 5, 5, 5, 5, 5, 5, 5, 5, 5, 5, 6, 6, 6, 6, 6, 6, 6, 6, 6, 6, 6, 6, 6, 6, 6, 6, 6, 6, 6, 6, 6, 6, 6, 6, 6, 6, 6, 6, 6, 6, 6, 6, 7, 7, 7, 7, 7, 7, 7, 7, 7, 7, 7, 7, 7, 7, 7, 7, 7, 7, 7, 7, 7, 7, 7, 7, 7, 7, 7, 7, 7, 7, 7, 7, 7, 7, 7, 7, 7, 7, 7, 7, 7, 7, 7, 7, 7, 7, 7, 7, 7, 7, 7, 7, 7, 7, 7, 7, 7, 7, 7, 7, 7, 7, 7, 7, 8, 8, 8, 8, 8, 8, 8, 8, 8, 8, 8, 8, 8, 8, 8, 8, 8, 8, 8, 8, 8, 8, 8, 8, 8, 8, 8, 8, 8, 8, 8, 8, 8, 8, 8, 8, 8, 8, 8, 8, 8, 8, 8, 8, 8, 8, 8, 8, 8, 8, 8, 8, 8, 8, 8, 8, 8, 8, 8, 8, 8, 8, 8, 8, 8, 8, 8, 8, 8, 8, 8, 8, 8, 8, 8, 8, 8, 8, 8, 8, 8, 8, 8, 8, 8, 8, 8, 8, 8, 8, 8, 8, 8, 8, 8, 8, 8, 8, 8, 8, 8, 8, 8, 8, 8, 8, 8, 8, 8, 8, 8, 8, 8, 8, 8, 8, 8, 8, 8, 8, 8, 8, 8, 8, 8, 8, 8, 8]⟩)) (.t 21), none⟩,
  ⟨some 23, .ci .i64 (.t 22), none⟩,
  ⟨some 24, .bin .add [] (.t 19) (.t 23), none⟩,
  ⟨some 2, .mv (.t 24), none⟩])
 (.ret))))),
 [.tmp 2], true⟩
def M118 : MFunc := ⟨.seq (.reg [⟨some 4, .mv (.c (.int .i64 0)), none⟩])
 (.seq (.seq (.reg [⟨some 6, .mv (.t 0), none⟩,
  ⟨some 7, .len none (.t 6), none⟩,
  ⟨some 8, .mv (.c (.int .i64 0)), none⟩])
 (.block 0 []
 (.loop [0, 1, 7, 8]
 (.seq (.reg [⟨some 9, .bin .lss [] (.t 8) (.t 7), none⟩])
 (.seq (.cond (.t 9)
 (.skip)
 (.exit 0))
 (.seq (.block 1 [0, 1, 7, 8]
 (.seq (.reg [⟨some 10, .mv (.t 8), none⟩,
  ⟨some 5, .mv (.t 10), none⟩])
 (.seq (.reg [⟨some 11, .mv (.t 1), none⟩,
  ⟨some 12, .mv (.t 0), none⟩,
  ⟨some 13, .mv (.t 5), none⟩,
  ⟨some 14, .ia none 1 (.t 12) (.t 13), none⟩,
  ⟨some 15, .ld none (.t 14), none⟩,
  ⟨some 16, .calld (.t 11) [(.t 15)], none⟩])
 (.cond (.t 16)
 (.seq (.reg [⟨some 17, .mv (.t 5), none⟩,
  ⟨some 4, .mv (.t 17), none⟩])
 (.ret))
 (.skip)))))
 (.reg [⟨some 18, .bin .add [] (.t 8) (.c (.int .i64 1)), none⟩,
  ⟨some 8, .mv (.t 18), none⟩])))))))
 (.seq (.reg [⟨some 4, .mv (.c (.int .i64 (-1))), none⟩])
 (.ret))),
 [.tmp 4], true⟩
def M120 : MFunc := ⟨.seq (.regd [(0, ⟨some 13, .ld none (.t 6), none⟩),
  (1, ⟨some 14, .mv (.t 0), none⟩),
  (2, ⟨some 15, .nc (.t 13), none⟩),
  (3, ⟨some 16, .ia (some 4) 1 (.t 15) (.t 14), none⟩),
  (4, ⟨some 17, .ld none (.t 16), none⟩),
  (5, ⟨some 18, .ld none (.t 6), none⟩),
  (6, ⟨some 19, .mv (.t 1), none⟩),
  (7, ⟨some 20, .nc (.t 18), none⟩),
  (8, ⟨some 21, .ia (some 4) 1 (.t 20) (.t 19), none⟩),
  (9, ⟨some 22, .ld none (.t 21), none⟩),
  (10, ⟨some 23, .bin .add [] (.t 17) (.t 22), none⟩),
  (11, ⟨some 24, .nc (.t 13), none⟩),
  (12, ⟨some 25, .ia (some 4) 1 (.t 24) (.t 14), none⟩),
  (13, ⟨none, .st 1 (.t 25) (.t 23), none⟩)] [])
 (.seq (.regd [(0, ⟨some 26, .ld none (.t 6), none⟩),
  (1, ⟨some 27, .mv (.t 2), none⟩),
  (2, ⟨some 28, .nc (.t 26), none⟩),
  (3, ⟨some 29, .ia (some 4) 1 (.t 28) (.t 27), none⟩),
  (4, ⟨some 30, .ld none (.t 29), none⟩),
  (5, ⟨some 31, .ld none (.t 6), none⟩),
  (6, ⟨some 32, .mv (.t 3), none⟩),
  (7, ⟨some 33, .nc (.t 31), none⟩),
  (8, ⟨some 34, .ia (some 4) 1 (.t 33) (.t 32), none⟩),
  (9, ⟨some 35, .ld none (.t 34), none⟩),
  (10, ⟨some 36, .bin .add [] (.t 30) (.t 35), none⟩),
  (11, ⟨some 37, .nc (.t 26), none⟩),
  (12, ⟨some 38, .ia (some 4) 1 (.t 37) (.t 27), none⟩),
  (13, ⟨none, .st 1 (.t 38) (.t 36), none⟩)] [])
 (.seq (.regd [(0, ⟨some 39, .ld none (.t 6), none⟩),
  (1, ⟨some 40, .mv (.t 1), none⟩),
  (2, ⟨some 41, .ld none (.t 6), none⟩),
  (3, ⟨some 42, .mv (.t 1), none⟩),
  (4, ⟨some 43, .nc (.t 41), none⟩),
  (5, ⟨some 44, .ia (some 4) 1 (.t 43) (.t 42), none⟩),
  (6, ⟨some 45, .ld none (.t 44), none⟩),
  (7, ⟨some 46, .mv (.t 4), none⟩),
  (8, ⟨some 47, .call 121 [(.t 45), (.t 46)], none⟩),
  (9, ⟨some 48, .ld none (.t 6), none⟩),
  (10, ⟨some 49, .mv (.t 0), none⟩),
  (11, ⟨some 50, .nc (.t 48), none⟩),
  (12, ⟨some 51, .ia (some 4) 1 (.t 50) (.t 49), none⟩),
  (13, ⟨some 52, .ld none (.t 51), none⟩),
  (14, ⟨some 53, .bin .xor [] (.t 47) (.t 52), none⟩),
  (15, ⟨some 54, .nc (.t 39), none⟩),
  (16, ⟨some 55, .ia (some 4) 1 (.t 54) (.t 40), none⟩),
  (17, ⟨none, .st 1 (.t 55) (.t 53), none⟩)] [(0, 8), (9, 8), (13, 8)])
 (.seq (.regd [(0, ⟨some 56, .ld none (.t 6), none⟩),
  (1, ⟨some 57, .mv (.t 3), none⟩),
  (2, ⟨some 58, .ld none (.t 6), none⟩),
  (3, ⟨some 59, .mv (.t 3), none⟩),
  (4, ⟨some 60, .nc (.t 58), none⟩),
  (5, ⟨some 61, .ia (some 4) 1 (.t 60) (.t 59), none⟩),
  (6, ⟨some 62, .ld none (.t 61), none⟩),
  (7, ⟨some 63, .mv (.t 5), none⟩),
  (8, ⟨some 64, .call 121 [(.t 62), (.t 63)], none⟩),
  (9, ⟨some 65, .ld none (.t 6), none⟩),
  (10, ⟨some 66, .mv (.t 2), none⟩),
  (11, ⟨some 67, .nc (.t 65), none⟩),
  (12, ⟨some 68, .ia (some 4) 1 (.t 67) (.t 66), none⟩),
  (13, ⟨some 69, .ld none (.t 68), none⟩),
  (14, ⟨some 70, .bin .xor [] (.t 64) (.t 69), none⟩),
  (15, ⟨some 71, .nc (.t 56), none⟩),
  (16, ⟨some 72, .ia (some 4) 1 (.t 71) (.t 57), none⟩),
  (17, ⟨none, .st 1 (.t 72) (.t 70), none⟩)] [(0, 8), (9, 8), (13, 8)])
 (.regd [(0, ⟨some 73, .ld none (.t 6), none⟩),
  (1, ⟨some 74, .mv (.t 0), none⟩),
  (2, ⟨some 75, .ld none (.t 6), none⟩),
  (3, ⟨some 76, .mv (.t 0), none⟩),
  (4, ⟨some 77, .nc (.t 75), none⟩),
  (5, ⟨some 78, .ia (some 4) 1 (.t 77) (.t 76), none⟩),
  (6, ⟨some 79, .ld none (.t 78), none⟩),
  (7, ⟨some 80, .call 121 [(.t 79), (.c (.int .i64 32))], none⟩),
  (8, ⟨some 81, .nc (.t 73), none⟩),
  (9, ⟨some 82, .ia (some 4) 1 (.t 81) (.t 74), none⟩),
  (10, ⟨none, .st 1 (.t 82) (.t 80), none⟩)] [(0, 7)])))),
 [], true⟩
def M121 : MFunc := ⟨.seq (.reg [⟨some 4, .mv (.c (.int .u64 0)), none⟩])
 (.seq (.reg [⟨some 6, .mv (.t 1), none⟩,
  ⟨some 7, .ci .u64 (.t 6), none⟩,
  ⟨some 8, .bin .and [] (.t 7) (.c (.int .u64 63)), none⟩,
  ⟨some 5, .mv (.t 8), none⟩])
 (.seq (.reg [⟨some 9, .mv (.t 0), none⟩,
  ⟨some 10, .mv (.t 5), none⟩,
  ⟨some 11, .bin .shl [] (.t 9) (.t 10), none⟩,
  ⟨some 12, .mv (.t 0), none⟩,
  ⟨some 13, .mv (.t 5), none⟩,
  ⟨some 14, .bin .sub [] (.c (.int .u64 64)) (.t 13), none⟩,
  ⟨some 15, .bin .shr [] (.t 12) (.t 14), none⟩,
  ⟨some 16, .bin .or [] (.t 11) (.t 15), none⟩,
  ⟨some 4, .mv (.t 16), none⟩])
 (.ret))),
 [.tmp 4], true⟩
def M122 : MFunc := ⟨.seq (.reg [⟨some 2, .mv (.c (.bool false)), none⟩])
 (.seq (.reg [⟨some 3, .mv (.t 0), none⟩,
  ⟨some 4, .bin .and [] (.t 3) (.c (.int .u8 192)), none⟩,
  ⟨some 5, .bin .neq [] (.t 4) (.c (.int .u8 128)), none⟩,
  ⟨some 2, .mv (.t 5), none⟩])
 (.ret)),
 [.tmp 2], true⟩
def M123 : MFunc := ⟨.seq (.reg [⟨some 2, .mv (.c (.int .i32 0)), none⟩,
  ⟨some 3, .mv (.c (.int .i64 0)), none⟩])
 (.seq (.seq (.reg [⟨some 4, .mv (.t 0), none⟩,
  ⟨some 5, .bin .neq [] (.t 4) (.c (.str ⟨#[]⟩)), none⟩,
  ⟨some 6, .mv (.t 5), none⟩,
  ⟨some 7, .mv (.t 0), some (6, true)⟩,
  ⟨some 8, .ixs (.t 7) (.c (.int .i64 0)), some (6, true)⟩,
  ⟨some 9, .bin .lss [] (.t 8) (.c (.int .u8 128)), some (6, true)⟩,
  ⟨some 10, .pick (.t 6) (.t 9) (.c (.bool false)), none⟩])
 (.cond (.t 10)
 (.seq (.reg [⟨some 11, .mv (.t 0), none⟩,
  ⟨some 12, .ixs (.t 11) (.c (.int .i64 0)), none⟩,
  ⟨some 13, .ci .i32 (.t 12), none⟩,
  ⟨some 2, .mv (.t 13), none⟩,
  ⟨some 3, .mv (.c (.int .i64 1)), none⟩])
 (.ret))
 (.reg [⟨some 15, .mv (.t 0), none⟩,
  ⟨some 16, .call 126 [(.t 15)], none⟩,
  ⟨some 14, .mv (.t 16), none⟩,
  ⟨some 17, .ex 0 (.t 14), none⟩,
  ⟨some 18, .ex 1 (.t 14), none⟩,
  ⟨some 2, .mv (.t 17), none⟩,
  ⟨some 3, .mv (.t 18), none⟩])))
 (.ret)),
 [.tmp 2, .tmp 3], true⟩
def M125 : MFunc := ⟨.seq (.reg [⟨some 4, .mv (.c (.int .i64 0)), none⟩])
 (.seq (.seq (.reg [⟨some 6, .mv (.t 0), none⟩,
  ⟨some 7, .len none (.t 6), none⟩,
  ⟨some 8, .mv (.c (.int .i64 0)), none⟩])
 (.block 0 []
 (.loop [0, 1, 7, 8]
 (.seq (.reg [⟨some 9, .bin .lss [] (.t 8) (.t 7), none⟩])
 (.seq (.cond (.t 9)
 (.skip)
 (.exit 0))
 (.seq (.block 1 [0, 1, 7, 8]
 (.seq (.reg [⟨some 10, .mv (.t 8), none⟩,
  ⟨some 5, .mv (.t 10), none⟩])
 (.seq (.reg [⟨some 11, .mv (.t 1), none⟩,
  ⟨some 12, .mv (.t 0), none⟩,
  ⟨some 13, .mv (.t 5), none⟩,
  ⟨some 14, .ia none 2 (.t 12) (.t 13), none⟩,
  ⟨some 15, .ld (some 2) (.t 14), none⟩,
  ⟨some 16, .calld (.t 11) [(.t 15)], none⟩])
 (.cond (.t 16)
 (.seq (.reg [⟨some 17, .mv (.t 5), none⟩,
  ⟨some 4, .mv (.t 17), none⟩])
 (.ret))
 (.skip)))))
 (.reg [⟨some 18, .bin .add [] (.t 8) (.c (.int .i64 1)), none⟩,
  ⟨some 8, .mv (.t 18), none⟩])))))))
 (.seq (.reg [⟨some 4, .mv (.c (.int .i64 (-1))), none⟩])
 (.ret))),
 [.tmp 4], true⟩
def M126 : MFunc := ⟨.seq (.reg [⟨some 2, .mv (.c (.int .i32 0)), none⟩,
  ⟨some 3, .mv (.c (.int .i64 0)), none⟩])
 (.seq (.reg [⟨some 13, .mv (.t 0), none⟩,
  ⟨some 14, .lens (.t 13), none⟩,
  ⟨some 4, .mv (.t 14), none⟩])
 (.seq (.seq (.reg [⟨some 15, .mv (.t 4), none⟩,
  ⟨some 16, .bin .lss [] (.t 15) (.c (.int .i64 1)), none⟩])
 (.cond (.t 16)
 (.seq (.reg [⟨some 2, .mv (.c (.int .i32 65533)), none⟩,
  ⟨some 3, .mv (.c (.int .i64 0)), none⟩])
 (.ret))
 (.skip)))
 (.seq (.reg [⟨some 17, .mv (.t 0), none⟩,
  ⟨some 18, .ixs (.t 17) (.c (.int .i64 0)), none⟩,
  ⟨some 5, .mv (.t 18), none⟩])
 (.seq (.reg [⟨some 19, .mv (.t 5), none⟩,
  ⟨some 20, .ia (some 256) 1 (.g 4) (.t 19), none⟩,
  ⟨some 21, .ld none (.t 20), none⟩,
  ⟨some 6, .mv (.t 21), none⟩])
 (.seq (.seq (.reg [⟨some 22, .mv (.t 6), none⟩,
  ⟨some 23, .bin .geq [] (.t 22) (.c (.int .u8 240)), none⟩])
 (.cond (.t 23)
 (.seq (.reg [⟨some 24, .mv (.t 6), none⟩,
  ⟨some 25, .ci .i32 (.t 24), none⟩,
  ⟨some 26, .bin .shl [] (.t 25) (.c (.int .u64 31)), none⟩,
  ⟨some 27, .bin .shr [] (.t 26) (.c (.int .u64 31)), none⟩,
  ⟨some 7, .mv (.t 27), none⟩])
 (.seq (.reg [⟨some 28, .mv (.t 0), none⟩,
  ⟨some 29, .ixs (.t 28) (.c (.int .i64 0)), none⟩,
  ⟨some 30, .ci .i32 (.t 29), none⟩,
  ⟨some 31, .mv (.t 7), none⟩,
  ⟨some 32, .bin .andNot [] (.t 30) (.t 31), none⟩,
  ⟨some 33, .mv (.t 7), none⟩,
  ⟨some 34, .bin .and [] (.c (.int .i32 65533)) (.t 33), none⟩,
  ⟨some 35, .bin .or [] (.t 32) (.t 34), none⟩,
  ⟨some 2, .mv (.t 35), none⟩,
  ⟨some 3, .mv (.c (.int .i64 1)), none⟩])
 (.ret)))
 (.skip)))
 (.seq (.reg [⟨some 36, .mv (.t 6), none⟩,
  ⟨some 37, .bin .and [] (.t 36) (.c (.int .u8 7)), none⟩,
  ⟨some 38, .ci .i64 (.t 37), none⟩,
  ⟨some 8, .mv (.t 38), none⟩])
 (.seq (.reg [⟨some 39, .mv (.t 6), none⟩,
  ⟨some 40, .bin .shr [] (.t 39) (.c (.int .u64 4)), none⟩,
  ⟨some 41, .ia (some 16) 2 (.g 5) (.t 40), none⟩,
  ⟨some 42, .ld (some 2) (.t 41), none⟩,
  ⟨some 9, .al (.ints .u8 [0, 0]), none⟩,
  ⟨none, .st 2 (.t 9) (.t 42), none⟩])
 (.seq (.seq (.reg [⟨some 43, .mv (.t 4), none⟩,
  ⟨some 44, .mv (.t 8), none⟩,
  ⟨some 45, .bin .lss [] (.t 43) (.t 44), none⟩])
 (.cond (.t 45)
 (.seq (.reg [⟨some 2, .mv (.c (.int .i32 65533)), none⟩,
  ⟨some 3, .mv (.c (.int .i64 1)), none⟩])
 (.ret))
 (.skip)))
 (.seq (.reg [⟨some 46, .mv (.t 0), none⟩,
  ⟨some 47, .ixs (.t 46) (.c (.int .i64 1)), none⟩,
  ⟨some 10, .mv (.t 47), none⟩])
 (.seq (.seq (.reg [⟨some 48, .mv (.t 10), none⟩,
  ⟨some 49, .fa 0 (.t 9), none⟩,
  ⟨some 50, .ld none (.t 49), none⟩,
  ⟨some 51, .bin .lss [] (.t 48) (.t 50), none⟩,
  ⟨some 52, .mv (.t 51), none⟩,
  ⟨some 53, .fa 1 (.t 9), some (52, false)⟩,
  ⟨some 54, .ld none (.t 53), some (52, false)⟩,
  ⟨some 55, .mv (.t 10), some (52, false)⟩,
  ⟨some 56, .bin .lss [] (.t 54) (.t 55), some (52, false)⟩,
  ⟨some 57, .pick (.t 52) (.c (.bool true)) (.t 56), none⟩])
 (.cond (.t 57)
 (.seq (.reg [⟨some 2, .mv (.c (.int .i32 65533)), none⟩,
  ⟨some 3, .mv (.c (.int .i64 1)), none⟩])
 (.ret))
 (.skip)))
 (.seq (.seq (.reg [⟨some 58, .mv (.t 8), none⟩,
  ⟨some 59, .bin .leq [] (.t 58) (.c (.int .i64 2)), none⟩])
 (.cond (.t 59)
 (.seq (.reg [⟨some 60, .mv (.t 5), none⟩,
  ⟨some 61, .bin .and [] (.t 60) (.c (.int .u8 31)), none⟩,
  ⟨some 62, .ci .i32 (.t 61), none⟩,
  ⟨some 63, .bin .shl [] (.t 62) (.c (.int .u64 6)), none⟩,
  ⟨some 64, .mv (.t 10), none⟩,
  ⟨some 65, .bin .and [] (.t 64) (.c (.int .u8 63)), none⟩,
  ⟨some 66, .ci .i32 (.t 65), none⟩,
  ⟨some 67, .bin .or [] (.t 63) (.t 66), none⟩,
  ⟨some 2, .mv (.t 67), none⟩,
  ⟨some 3, .mv (.c (.int .i64 2)), none⟩])
 (.ret))
 (.skip)))
 (.seq (.reg [⟨some 68, .mv (.t 0), none⟩,
  ⟨some 69, .ixs (.t 68) (.c (.int .i64 2)), none⟩,
  ⟨some 11, .mv (.t 69), none⟩])
 (.seq (.seq (.reg [⟨some 70, .mv (.t 11), none⟩,
  ⟨some 71, .bin .lss [] (.t 70) (.c (.int .u8 128)), none⟩,
  ⟨some 72, .mv (.t 71), none⟩,
  ⟨some 73, .mv (.t 11), some (72, false)⟩,
  ⟨some 74, .bin .lss [] (.c (.int .u8 191)) (.t 73), some (72, false)⟩,
  ⟨some 75, .pick (.t 72) (.c (.bool true)) (.t 74), none⟩])
 (.cond (.t 75)
 (.seq (.reg [⟨some 2, .mv (.c (.int .i32 65533)), none⟩,
  ⟨some 3, .mv (.c (.int .i64 1)), none⟩])
 (.ret))
 (.skip)))
 (.seq (.seq (.reg [⟨some 76, .mv (.t 8), none⟩,
  ⟨some 77, .bin .leq [] (.t 76) (.c (.int .i64 3)), none⟩])
 (.cond (.t 77)
 (.seq (.reg [⟨some 78, .mv (.t 5), none⟩,
  ⟨some 79, .bin .and [] (.t 78) (.c (.int .u8 15)), none⟩,
  ⟨some 80, .ci .i32 (.t 79), none⟩,
  ⟨some 81, .bin .shl [] (.t 80) (.c (.int .u64 12)), none⟩,
  ⟨some 82, .mv (.t 10), none⟩,
  ⟨some 83, .bin .and [] (.t 82) (.c (.int .u8 63)), none⟩,
  ⟨some 84, .ci .i32 (.t 83), none⟩,
  ⟨some 85, .bin .shl [] (.t 84) (.c (.int .u64 6)), none⟩,
  ⟨some 86, .bin .or [] (.t 81) (.t 85), none⟩,
  ⟨some 87, .mv (.t 11), none⟩,
  ⟨some 88, .bin .and [] (.t 87) (.c (.int .u8 63)), none⟩,
  ⟨some 89, .ci .i32 (.t 88), none⟩,
  ⟨some 90, .bin .or [] (.t 86) (.t 89), none⟩,
  ⟨some 2, .mv (.t 90), none⟩,
  ⟨some 3, .mv (.c (.int .i64 3)), none⟩])
 (.ret))
 (.skip)))
 (.seq (.reg [⟨some 91, .mv (.t 0), none⟩,
  ⟨some 92, .ixs (.t 91) (.c (.int .i64 3)), none⟩,
  ⟨some 12, .mv (.t 92), none⟩])
 (.seq (.seq (.reg [⟨some 93, .mv (.t 12), none⟩,
  ⟨some 94, .bin .lss [] (.t 93) (.c (.int .u8 128)), none⟩,
  ⟨some 95, .mv (.t 94), none⟩,
  ⟨some 96, .mv (.t 12), some (95, false)⟩,
  ⟨some 97, .bin .lss [] (.c (.int .u8 191)) (.t 96), some (95, false)⟩,
  ⟨some 98, .pick (.t 95) (.c (.bool true)) (.t 97), none⟩])
 (.cond (.t 98)
 (.seq (.reg [⟨some 2, .mv (.c (.int .i32 65533)), none⟩,
  ⟨some 3, .mv (.c (.int .i64 1)), none⟩])
 (.ret))
 (.skip)))
 (.seq (.reg [⟨some 99, .mv (.t 5), none⟩,
  ⟨some 100, .bin .and [] (.t 99) (.c (.int .u8 7)), none⟩,
  ⟨some 101, .ci .i32 (.t 100), none⟩,
  ⟨some 102, .bin .shl [] (.t 101) (.c (.int .u64 18)), none⟩,
  ⟨some 103, .mv (.t 10), none⟩,
  ⟨some 104, .bin .and [] (.t 103) (.c (.int .u8 63)), none⟩,
  ⟨some 105, .ci .i32 (.t 104), none⟩,
  ⟨some 106, .bin .shl [] (.t 105) (.c (.int .u64 12)), none⟩,
  ⟨some 107, .bin .or [] (.t 102) (.t 106), none⟩,
  ⟨some 108, .mv (.t 11), none⟩,
  ⟨some 109, .bin .and [] (.t 108) (.c (.int .u8 63)), none⟩,
  ⟨some 110, .ci .i32 (.t 109), none⟩,
  ⟨some 111, .bin .shl [] (.t 110) (.c (.int .u64 6)), none⟩,
  ⟨some 112, .bin .or [] (.t 107) (.t 111), none⟩,
  ⟨some 113, .mv (.t 12), none⟩,
  ⟨some 114, .bin .and [] (.t 113) (.c (.int .u8 63)), none⟩,
  ⟨some 115, .ci .i32 (.t 114), none⟩,
  ⟨some 116, .bin .or [] (.t 112) (.t 115), none⟩,
  ⟨some 2, .mv (.t 116), none⟩,
  ⟨some 3, .mv (.c (.int .i64 4)), none⟩])
 (.ret)))))))))))))))))),
 [.tmp 2, .tmp 3], true⟩
def M150 : MFunc := ⟨.seq (.reg [⟨some 1, .bx none 17 (.t 0), none⟩,
  ⟨some 2, .mv (.c (.bool false)), none⟩])
 (.seq (.reg [⟨some 3, .fa 2 (.t 1), none⟩,
  ⟨some 4, .ld none (.t 3), none⟩,
  ⟨some 5, .bin .neq [] (.t 4) (.c (.int .u8 4)), none⟩,
  ⟨some 2, .mv (.t 5), none⟩])
 (.ret)),
 [.tmp 2], true⟩
def M151 : MFunc := ⟨.seq (.reg [⟨some 1, .bx none 17 (.t 0), none⟩,
  ⟨some 2, .mv (.c (.bool false)), none⟩])
 (.seq (.reg [⟨some 3, .fa 3 (.t 1), none⟩,
  ⟨some 4, .ld none (.t 3), none⟩,
  ⟨some 5, .bin .eql [] (.t 4) (.c (.int .u8 0)), none⟩,
  ⟨some 2, .mv (.t 5), none⟩])
 (.ret)),
 [.tmp 2], true⟩
def M152 : MFunc := ⟨.seq (.reg [⟨some 1, .bx none 17 (.t 0), none⟩,
  ⟨some 2, .mv (.c (.bool false)), none⟩])
 (.seq (.reg [⟨some 3, .fa 0 (.t 1), none⟩,
  ⟨some 4, .ld none (.t 3), none⟩,
  ⟨some 5, .bin .eql [] (.t 4) (.c (.int .u8 3)), none⟩,
  ⟨some 6, .mv (.t 5), none⟩,
  ⟨some 7, .fa 3 (.t 1), some (6, false)⟩,
  ⟨some 8, .ld none (.t 7), some (6, false)⟩,
  ⟨some 9, .bin .gtr [] (.t 8) (.c (.int .u8 15)), some (6, false)⟩,
  ⟨some 10, .pick (.t 6) (.c (.bool true)) (.t 9), none⟩,
  ⟨some 2, .mv (.t 10), none⟩])
 (.ret)),
 [.tmp 2], true⟩
def M153 : MFunc := ⟨.seq (.reg [⟨some 1, .bx none 17 (.t 0), none⟩,
  ⟨some 2, .mv (.c (.bool false)), none⟩])
 (.seq (.reg [⟨some 3, .fa 11 (.t 1), none⟩,
  ⟨some 4, .ld none (.t 3), none⟩,
  ⟨some 5, .bin .eql [] (.t 4) (.c (.int .u64 0)), none⟩,
  ⟨some 6, .mv (.t 5), none⟩,
  ⟨some 7, .fa 12 (.t 1), some (6, false)⟩,
  ⟨some 8, .ld none (.t 7), some (6, false)⟩,
  ⟨some 9, .bin .eql [] (.t 8) (.c (.int .u64 0)), some (6, false)⟩,
  ⟨some 10, .pick (.t 6) (.c (.bool true)) (.t 9), none⟩,
  ⟨some 2, .mv (.t 10), none⟩])
 (.ret)),
 [.tmp 2], true⟩
def M154 : MFunc := ⟨.seq (.reg [⟨some 1, .bx none 17 (.t 0), none⟩,
  ⟨some 2, .mv (.c (.bool false)), none⟩])
 (.seq (.reg [⟨some 3, .ld (some 17) (.t 1), none⟩,
  ⟨some 4, .call 20 [(.t 3)], none⟩,
  ⟨some 5, .bin .gtr [] (.t 4) (.c (.int .i64 16000000000)), none⟩,
  ⟨some 2, .mv (.t 5), none⟩])
 (.ret)),
 [.tmp 2], true⟩
def MPL : List (Nat × MFunc) := [(4, M4), (5, M5), (6, M6), (7, M7), (9, M9), (10, M10), (12, M12), (13, M13), (14, M14), (15, M15), (16, M16), (17, M17), (18, M18), (19, M19), (20, M20), (21, M21), (22, M22), (23, M23), (24, M24), (25, M25), (26, M26), (27, M27), (28, M28), (29, M29), (37, M37), (38, M38), (39, M39), (40, M40), (41, M41), (42, M42), (43, M43), (44, M44), (45, M45), (46, M46), (47, M47), (48, M48), (49, M49), (50, M50), (51, M51), (52, M52), (53, M53), (54, M54), (65, M65), (66, M66), (67, M67), (68, M68), (69, M69), (70, M70), (71, M71), (73, M73), (74, M74), (75, M75), (76, M76), (77, M77), (78, M78), (79, M79), (80, M80), (81, M81), (82, M82), (83, M83), (84, M84), (85, M85), (86, M86), (87, M87), (88, M88), (89, M89), (90, M90), (91, M91), (93, M93), (103, M103), (104, M104), (105, M105), (107, M107), (108, M108), (109, M109), (110, M110), (111, M111), (112, M112), (113, M113), (118, M118), (120, M120), (121, M121), (122, M122), (123, M123), (125, M125), (126, M126), (150, M150), (151, M151), (152, M152), (153, M153), (154, M154)]
def MP (f : Nat) : Option MFunc := MPL.lookup f
def GL : List Nat := [0, 1, 2, 3, 4, 5]
noncomputable def X : Ctx := ⟨Go.Proofs.Tryd.prog, 6, fun i => GL.getD i 0⟩
end Go.Proofs.YtdpbbagllhfjbaaDoorW.AI.G
