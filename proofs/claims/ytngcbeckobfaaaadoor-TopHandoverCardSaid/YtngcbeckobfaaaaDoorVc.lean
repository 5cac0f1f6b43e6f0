/- The plain code of the loaded functions, printed by a program of this session (gen.py). -/
import Derived.Test.YtngcbeckobfaaaaDoorVd
set_option linter.unusedSimpArgs false
set_option linter.unusedVariables false
namespace Go.Vi.Tryd
open Go Go.Vi
/-- remontoir/remontoirtop.TopHandover -/
def c3 : VFunc :=
  ⟨249, .seq (.region [⟨(some 2), none, .box (.tmp 0), []⟩,
     ⟨(some 4), none, .move (.const (.bool false)), []⟩] [1, 2])
   (.seq (.region [⟨(some 22), none, .load (some 3) (.tmp 2), []⟩,
     ⟨(some 23), none, .call false (.const (.func 6 [] [])) [(.tmp 22)], []⟩,
     ⟨(some 21), none, .move (.tmp 23), []⟩,
     ⟨(some 24), none, .extract (.tmp 21) 0, []⟩,
     ⟨(some 25), none, .extract (.tmp 21) 1, []⟩,
     ⟨(some 5), none, .move (.tmp 24), []⟩,
     ⟨(some 6), none, .move (.tmp 25), []⟩] [1, 2, 5, 6])
   (.seq (.seq (.region [⟨(some 26), none, .move (.tmp 6), []⟩,
     ⟨(some 27), none, .bin .neq (.tmp 26) (.const (.int .i64 0)), []⟩,
     ⟨(some 28), none, .move (.tmp 27), []⟩,
     ⟨(some 29), (some (28, false)), .load (some 3) (.tmp 2), []⟩,
     ⟨(some 30), (some (28, false)), .call false (.const (.func 7 [] [])) [(.tmp 29)], []⟩,
     ⟨(some 31), (some (28, false)), .bin .neq (.tmp 30) (.const (.int .i64 0)), []⟩,
     ⟨(some 32), none, .pick (.tmp 28) (.const (.bool true)) (.tmp 31), []⟩] [1, 2, 5, 6, 32])
   (.cond (.tmp 32) (.seq (.region [⟨(some 33), none, .move (.tmp 6), []⟩,
      ⟨(some 34), none, .bin .eql (.tmp 33) (.const (.int .i64 80)), []⟩,
      ⟨(some 35), none, .move (.tmp 34), []⟩,
      ⟨(some 36), (some (35, false)), .move (.tmp 6), []⟩,
      ⟨(some 37), (some (35, false)), .bin .eql (.tmp 36) (.const (.int .i64 4)), []⟩,
      ⟨(some 38), none, .pick (.tmp 35) (.const (.bool true)) (.tmp 37), []⟩,
      ⟨(some 39), none, .move (.tmp 38), []⟩,
      ⟨(some 40), (some (39, true)), .move (.tmp 5), []⟩,
      ⟨(some 41), (some (39, true)), .len (.tmp 40), []⟩,
      ⟨(some 42), (some (39, true)), .bin .eql (.tmp 41) (.const (.int .i64 0)), []⟩,
      ⟨(some 43), none, .pick (.tmp 39) (.tmp 42) (.const (.bool false)), []⟩,
      ⟨(some 44), none, .move (.tmp 43), []⟩,
      ⟨(some 45), (some (44, true)), .call false (.const (.func 8 [] [])) [], []⟩,
      ⟨(some 46), none, .pick (.tmp 44) (.tmp 45) (.const (.bool false)), []⟩,
      ⟨(some 4), none, .move (.tmp 46), []⟩] [4])
    (.ret)) (.skip)))
   (.seq (.region [⟨(some 48), none, .load (some 3) (.tmp 2), []⟩,
     ⟨(some 49), none, .move (.tmp 5), []⟩,
     ⟨(some 50), none, .call false (.const (.func 9 [] [])) [(.tmp 48), (.tmp 49)], []⟩,
     ⟨(some 47), none, .move (.tmp 50), []⟩,
     ⟨(some 51), none, .extract (.tmp 47) 0, []⟩,
     ⟨(some 52), none, .extract (.tmp 47) 1, []⟩,
     ⟨(some 7), none, .move (.tmp 51), []⟩,
     ⟨(some 6), none, .move (.tmp 52), []⟩] [1, 2, 5, 6, 7])
   (.seq (.seq (.region [⟨(some 53), none, .move (.tmp 6), []⟩,
     ⟨(some 54), none, .bin .neq (.tmp 53) (.const (.int .i64 0)), []⟩,
     ⟨(some 55), none, .move (.tmp 54), []⟩,
     ⟨(some 56), (some (55, false)), .move (.tmp 7), []⟩,
     ⟨(some 57), (some (55, false)), .not (.tmp 56), []⟩,
     ⟨(some 58), none, .pick (.tmp 55) (.const (.bool true)) (.tmp 57), []⟩,
     ⟨(some 59), none, .move (.tmp 58), []⟩,
     ⟨(some 60), (some (59, false)), .move (.tmp 5), []⟩,
     ⟨(some 61), (some (59, false)), .len (.tmp 60), []⟩,
     ⟨(some 62), (some (59, false)), .bin .eql (.tmp 61) (.const (.int .i64 0)), []⟩,
     ⟨(some 63), none, .pick (.tmp 59) (.const (.bool true)) (.tmp 62), []⟩] [1, 2, 5, 63])
   (.cond (.tmp 63) (.seq (.region [⟨(some 4), none, .move (.const (.bool false)), []⟩] [4])
    (.ret)) (.skip)))
   (.seq (.seq (.region [⟨(some 64), none, .move (.tmp 5), []⟩,
     ⟨(some 65), none, .len (.tmp 64), []⟩,
     ⟨(some 66), none, .bin .eql (.tmp 65) (.const (.int .i64 1)), []⟩] [1, 2, 5, 66])
   (.cond (.tmp 66) (.seq (.region [⟨(some 67), none, .call false (.const (.func 8 [] [])) [], []⟩,
      ⟨(some 4), none, .move (.tmp 67), []⟩] [4])
    (.ret)) (.skip)))
   (.seq (.region [⟨(some 68), none, .move (.tmp 1), []⟩,
     ⟨(some 69), none, .move (.tmp 5), []⟩,
     ⟨(some 70), none, .len (.tmp 69), []⟩,
     ⟨(some 71), none, .bin .sub (.tmp 70) (.const (.int .i64 1)), []⟩,
     ⟨(some 72), none, .call false (.const (.func 10 [] [])) [(.tmp 68), (.tmp 71)], []⟩,
     ⟨(some 8), none, .move (.tmp 72), []⟩] [2, 5, 8])
   (.seq (.region [⟨(some 73), none, .move (.tmp 5), []⟩,
     ⟨(some 74), none, .move (.tmp 8), []⟩,
     ⟨(some 75), none, .idxAddr none 3 true (.tmp 73) (.tmp 74), []⟩,
     ⟨(some 76), none, .load (some 3) (.tmp 75), []⟩,
     ⟨(some 77), none, .move (.tmp 5), []⟩,
     ⟨(some 78), none, .move (.tmp 8), []⟩,
     ⟨(some 79), none, .bin .add (.tmp 78) (.const (.int .i64 1)), []⟩,
     ⟨(some 80), none, .idxAddr none 3 true (.tmp 77) (.tmp 79), []⟩,
     ⟨(some 81), none, .load (some 3) (.tmp 80), []⟩,
     ⟨(some 9), none, .alloc [.int .i64 0, .int .i64 0, .int .i64 0], [3, 8]⟩,
     ⟨(some 10), none, .alloc [.int .i64 0, .int .i64 0, .int .i64 0], [3, 8]⟩,
     ⟨none, none, .store 3 (.tmp 9) (.tmp 76), [8]⟩,
     ⟨none, none, .store 3 (.tmp 10) (.tmp 81), []⟩] [2, 9, 10])
   (.seq (.seq (.region [⟨(some 82), none, .fieldAddr 0 none (.tmp 9), []⟩,
     ⟨(some 83), none, .load none (.tmp 82), []⟩,
     ⟨(some 84), none, .fieldAddr 2 none (.tmp 2), []⟩,
     ⟨(some 85), none, .load none (.tmp 84), []⟩,
     ⟨(some 86), none, .len (.tmp 85), []⟩,
     ⟨(some 87), none, .bin .sub (.tmp 86) (.const (.int .i64 1)), []⟩,
     ⟨(some 88), none, .call false (.const (.func 11 [] [])) [(.tmp 83), (.const (.int .i64 0)), (.tmp 87)], []⟩,
     ⟨(some 89), none, .not (.tmp 88), []⟩,
     ⟨(some 90), none, .move (.tmp 89), []⟩,
     ⟨(some 91), (some (90, false)), .fieldAddr 0 none (.tmp 10), []⟩,
     ⟨(some 92), (some (90, false)), .load none (.tmp 91), []⟩,
     ⟨(some 93), (some (90, false)), .fieldAddr 2 none (.tmp 2), []⟩,
     ⟨(some 94), (some (90, false)), .load none (.tmp 93), []⟩,
     ⟨(some 95), (some (90, false)), .len (.tmp 94), []⟩,
     ⟨(some 96), (some (90, false)), .bin .sub (.tmp 95) (.const (.int .i64 1)), []⟩,
     ⟨(some 97), (some (90, false)), .call false (.const (.func 11 [] [])) [(.tmp 92), (.const (.int .i64 0)), (.tmp 96)], []⟩,
     ⟨(some 98), (some (90, false)), .not (.tmp 97), []⟩,
     ⟨(some 99), none, .pick (.tmp 90) (.const (.bool true)) (.tmp 98), []⟩] [2, 9, 10, 99])
   (.cond (.tmp 99) (.seq (.region [⟨(some 4), none, .move (.const (.bool false)), []⟩] [4])
    (.ret)) (.skip)))
   (.seq (.region [⟨(some 100), none, .fieldAddr 2 none (.tmp 2), []⟩,
     ⟨(some 101), none, .load none (.tmp 100), []⟩,
     ⟨(some 102), none, .fieldAddr 0 none (.tmp 9), []⟩,
     ⟨(some 103), none, .load none (.tmp 102), []⟩,
     ⟨(some 104), none, .idxAddr none 5 true (.tmp 101) (.tmp 103), []⟩,
     ⟨(some 105), none, .load (some 5) (.tmp 104), []⟩,
     ⟨(some 106), none, .fieldAddr 2 none (.tmp 2), []⟩,
     ⟨(some 107), none, .load none (.tmp 106), []⟩,
     ⟨(some 108), none, .fieldAddr 0 none (.tmp 10), []⟩,
     ⟨(some 109), none, .load none (.tmp 108), []⟩,
     ⟨(some 110), none, .idxAddr none 5 true (.tmp 107) (.tmp 109), []⟩,
     ⟨(some 111), none, .load (some 5) (.tmp 110), []⟩,
     ⟨(some 11), none, .alloc [.int .i64 0, .int .i64 0, .int .i64 0, .int .i64 0, .int .i64 0], [1, 3, 5, 7, 9, 11]⟩,
     ⟨(some 12), none, .alloc [.int .i64 0, .int .i64 0, .int .i64 0, .int .i64 0, .int .i64 0], [1, 3, 5, 7, 9, 11]⟩,
     ⟨none, none, .store 5 (.tmp 11) (.tmp 105), [7, 9, 11]⟩,
     ⟨none, none, .store 5 (.tmp 12) (.tmp 111), []⟩] [2, 9, 10, 11, 12])
   (.seq (.region [⟨(some 112), none, .fieldAddr 1 none (.tmp 9), []⟩,
     ⟨(some 113), none, .load none (.tmp 112), []⟩,
     ⟨(some 114), none, .fieldAddr 1 none (.tmp 11), []⟩,
     ⟨(some 115), none, .load none (.tmp 114), []⟩,
     ⟨(some 116), none, .bin .add (.tmp 113) (.tmp 115), []⟩,
     ⟨(some 117), none, .fieldAddr 1 none (.tmp 10), []⟩,
     ⟨(some 118), none, .load none (.tmp 117), []⟩,
     ⟨(some 119), none, .fieldAddr 1 none (.tmp 12), []⟩,
     ⟨(some 120), none, .load none (.tmp 119), []⟩,
     ⟨(some 121), none, .bin .add (.tmp 118) (.tmp 120), []⟩,
     ⟨(some 13), none, .move (.tmp 116), []⟩,
     ⟨(some 14), none, .move (.tmp 121), []⟩] [2, 10, 11, 12, 13, 14])
   (.seq (.region [⟨(some 122), none, .move (.tmp 13), []⟩,
     ⟨(some 123), none, .move (.tmp 14), []⟩,
     ⟨(some 124), none, .min [(.tmp 122), (.tmp 123)], []⟩,
     ⟨(some 15), none, .move (.tmp 124), []⟩] [2, 10, 11, 12, 13, 14, 15])
   (.seq (.region [⟨(some 125), none, .fieldAddr 2 none (.tmp 10), []⟩,
     ⟨(some 126), none, .load none (.tmp 125), []⟩,
     ⟨(some 127), none, .move (.tmp 15), []⟩,
     ⟨(some 128), none, .bin .sub (.tmp 126) (.tmp 127), []⟩,
     ⟨(some 16), none, .move (.tmp 128), []⟩] [2, 10, 11, 12, 13, 14, 15, 16])
   (.seq (.seq (.region [⟨(some 129), none, .move (.tmp 16), []⟩,
     ⟨(some 130), none, .bin .lss (.tmp 129) (.const (.int .i64 0)), []⟩,
     ⟨(some 131), none, .move (.tmp 130), []⟩,
     ⟨(some 132), (some (131, false)), .move (.tmp 13), []⟩,
     ⟨(some 133), (some (131, false)), .fieldAddr 2 none (.tmp 10), []⟩,
     ⟨(some 134), (some (131, false)), .load none (.tmp 133), []⟩,
     ⟨(some 135), (some (131, false)), .bin .gtr (.tmp 132) (.tmp 134), []⟩,
     ⟨(some 136), none, .pick (.tmp 131) (.const (.bool true)) (.tmp 135), []⟩,
     ⟨(some 137), none, .move (.tmp 136), []⟩,
     ⟨(some 138), (some (137, false)), .move (.tmp 14), []⟩,
     ⟨(some 139), (some (137, false)), .fieldAddr 2 none (.tmp 10), []⟩,
     ⟨(some 140), (some (137, false)), .load none (.tmp 139), []⟩,
     ⟨(some 141), (some (137, false)), .bin .gtr (.tmp 138) (.tmp 140), []⟩,
     ⟨(some 142), none, .pick (.tmp 137) (.const (.bool true)) (.tmp 141), []⟩] [2, 10, 11, 12, 13, 14, 15, 16, 142])
   (.cond (.tmp 142) (.seq (.region [⟨(some 4), none, .move (.const (.bool false)), []⟩] [4])
    (.ret)) (.skip)))
   (.seq (.seq (.region [⟨(some 143), none, .move (.tmp 16), []⟩,
     ⟨(some 144), none, .bin .gtr (.tmp 143) (.const (.int .i64 12)), []⟩] [2, 10, 11, 12, 13, 14, 15, 16, 144])
   (.cond (.tmp 144) (.seq (.region [⟨(some 145), none, .call false (.const (.func 8 [] [])) [], []⟩,
      ⟨(some 4), none, .move (.tmp 145), []⟩] [4])
    (.ret)) (.skip)))
   (.seq (.region [⟨(some 146), none, .move (.tmp 16), []⟩,
     ⟨(some 147), none, .max [(.const (.int .i64 1)), (.tmp 146)], []⟩,
     ⟨(some 148), none, .fieldAddr 4 none (.tmp 11), []⟩,
     ⟨(some 149), none, .load none (.tmp 148), []⟩,
     ⟨(some 150), none, .neg (.tmp 149), []⟩,
     ⟨(some 151), none, .fieldAddr 4 none (.tmp 11), []⟩,
     ⟨(some 152), none, .load none (.tmp 151), []⟩,
     ⟨(some 153), none, .call true (.const (.func 12 [] [])) [(.tmp 150), (.tmp 152)], []⟩,
     ⟨(some 154), none, .fieldAddr 4 none (.tmp 12), []⟩,
     ⟨(some 155), none, .load none (.tmp 154), []⟩,
     ⟨(some 156), none, .neg (.tmp 155), []⟩,
     ⟨(some 157), none, .fieldAddr 4 none (.tmp 12), []⟩,
     ⟨(some 158), none, .load none (.tmp 157), []⟩,
     ⟨(some 159), none, .call false (.const (.func 12 [] [])) [(.tmp 156), (.tmp 158)], []⟩,
     ⟨(some 160), none, .mkslice 2 [(.tmp 153), (.tmp 159)], []⟩,
     ⟨(some 161), none, .build [.int .i64 0, .slice 0 [] .nil, .slice 0 [] .nil, .slice 0 [] .nil] [(0, 1, (.tmp 147)), (1, 1, (.tmp 160))], []⟩,
     ⟨(some 17), none, .alloc [.int .i64 0, .slice 0 [] .nil, .slice 0 [] .nil, .slice 0 [] .nil], [3, 6, 9, 12]⟩,
     ⟨none, none, .store 4 (.tmp 17) (.tmp 161), []⟩] [2, 10, 11, 12, 13, 14, 15, 16, 17])
   (.seq (.region [⟨(some 162), none, .move (.tmp 13), []⟩,
     ⟨(some 163), none, .move (.tmp 15), []⟩,
     ⟨(some 164), none, .bin .sub (.tmp 162) (.tmp 163), []⟩,
     ⟨(some 165), none, .build [.int .i64 0, .int .i64 0, .int .i64 0, .int .i64 0, .int .i64 0] [(0, 1, (.tmp 164)), (1, 1, (.const (.int .i64 0))), (2, 1, (.const (.int .i64 (-1))))], []⟩,
     ⟨(some 166), none, .move (.tmp 14), []⟩,
     ⟨(some 167), none, .move (.tmp 15), []⟩,
     ⟨(some 168), none, .bin .sub (.tmp 166) (.tmp 167), []⟩,
     ⟨(some 169), none, .build [.int .i64 0, .int .i64 0, .int .i64 0, .int .i64 0, .int .i64 0] [(0, 1, (.tmp 168)), (1, 1, (.const (.int .i64 1))), (2, 1, (.const (.int .i64 (-1))))], []⟩,
     ⟨(some 170), none, .mkslice 5 [(.tmp 165), (.tmp 169)], []⟩,
     ⟨(some 171), none, .fieldAddr 3 none (.tmp 17), []⟩,
     ⟨none, none, .store 1 (.tmp 171) (.tmp 170), []⟩] [2, 10, 11, 12, 13, 14, 16, 17])
   (.seq (.region [⟨(some 173), none, .load (some 4) (.tmp 17), []⟩,
     ⟨(some 174), none, .move (.tmp 16), []⟩,
     ⟨(some 175), none, .call false (.const (.func 13 [] [])) [(.tmp 173), (.const (.int .i64 0)), (.const (.int .i64 1)), (.tmp 174)], []⟩,
     ⟨(some 172), none, .move (.tmp 175), []⟩,
     ⟨(some 176), none, .extract (.tmp 172) 0, []⟩,
     ⟨(some 177), none, .extract (.tmp 172) 1, []⟩,
     ⟨(some 18), none, .alloc [.int .i64 0, .int .i64 0], []⟩,
     ⟨none, none, .store 2 (.tmp 18) (.tmp 176), []⟩,
     ⟨(some 6), none, .move (.tmp 177), []⟩] [2, 6, 10, 11, 12, 13, 14, 16, 17, 18])
   (.seq (.region [⟨(some 179), none, .load (some 4) (.tmp 17), []⟩,
     ⟨(some 180), none, .move (.tmp 16), []⟩,
     ⟨(some 181), none, .call false (.const (.func 13 [] [])) [(.tmp 179), (.const (.int .i64 1)), (.const (.int .i64 0)), (.tmp 180)], []⟩,
     ⟨(some 178), none, .move (.tmp 181), []⟩,
     ⟨(some 182), none, .extract (.tmp 178) 0, []⟩,
     ⟨(some 183), none, .extract (.tmp 178) 1, []⟩,
     ⟨(some 19), none, .alloc [.int .i64 0, .int .i64 0], []⟩,
     ⟨none, none, .store 2 (.tmp 19) (.tmp 182), []⟩,
     ⟨(some 20), none, .move (.tmp 183), []⟩] [2, 6, 10, 11, 12, 13, 14, 18, 19, 20])
   (.seq (.region [⟨(some 184), none, .move (.tmp 6), []⟩,
     ⟨(some 185), none, .bin .eql (.tmp 184) (.const (.int .i64 0)), []⟩,
     ⟨(some 186), none, .move (.tmp 185), []⟩,
     ⟨(some 187), (some (186, true)), .move (.tmp 20), []⟩,
     ⟨(some 188), (some (186, true)), .bin .eql (.tmp 187) (.const (.int .i64 0)), []⟩,
     ⟨(some 189), none, .pick (.tmp 186) (.tmp 188) (.const (.bool false)), []⟩,
     ⟨(some 190), none, .move (.tmp 189), []⟩,
     ⟨(some 191), (some (190, true)), .load (some 2) (.tmp 18), []⟩,
     ⟨(some 192), (some (190, true)), .fieldAddr 1 none (.tmp 2), []⟩,
     ⟨(some 193), (some (190, true)), .load none (.tmp 192), []⟩,
     ⟨(some 194), (some (190, true)), .neg (.tmp 193), []⟩,
     ⟨(some 195), (some (190, true)), .fieldAddr 1 none (.tmp 2), []⟩,
     ⟨(some 196), (some (190, true)), .load none (.tmp 195), []⟩,
     ⟨(some 197), (some (190, true)), .call false (.const (.func 14 [] [])) [(.tmp 191), (.tmp 194), (.tmp 196)], []⟩,
     ⟨(some 198), none, .pick (.tmp 190) (.tmp 197) (.const (.bool false)), []⟩,
     ⟨(some 199), none, .move (.tmp 198), []⟩,
     ⟨(some 200), (some (199, true)), .load (some 2) (.tmp 19), []⟩,
     ⟨(some 201), (some (199, true)), .fieldAddr 1 none (.tmp 18), []⟩,
     ⟨(some 202), (some (199, true)), .load none (.tmp 201), []⟩,
     ⟨(some 203), (some (199, true)), .neg (.tmp 202), []⟩,
     ⟨(some 204), (some (199, true)), .fieldAddr 0 none (.tmp 18), []⟩,
     ⟨(some 205), (some (199, true)), .load none (.tmp 204), []⟩,
     ⟨(some 206), (some (199, true)), .neg (.tmp 205), []⟩,
     ⟨(some 207), (some (199, true)), .call false (.const (.func 12 [] [])) [(.tmp 203), (.tmp 206)], [16]⟩,
     ⟨(some 208), (some (199, true)), .eql true [some .i64, some .i64] false (.tmp 200) (.tmp 207), []⟩,
     ⟨(some 209), none, .pick (.tmp 199) (.tmp 208) (.const (.bool false)), []⟩,
     ⟨(some 210), none, .move (.tmp 209), []⟩,
     ⟨(some 211), (some (210, true)), .load (some 2) (.tmp 18), []⟩,
     ⟨(some 212), (some (210, true)), .fieldAddr 4 none (.tmp 11), []⟩,
     ⟨(some 213), (some (210, true)), .load none (.tmp 212), []⟩,
     ⟨(some 214), (some (210, true)), .neg (.tmp 213), []⟩,
     ⟨(some 215), (some (210, true)), .fieldAddr 2 none (.tmp 10), []⟩,
     ⟨(some 216), (some (210, true)), .load none (.tmp 215), []⟩,
     ⟨(some 217), (some (210, true)), .move (.tmp 13), []⟩,
     ⟨(some 218), (some (210, true)), .bin .sub (.tmp 216) (.tmp 217), []⟩,
     ⟨(some 219), (some (210, true)), .bin .mul (.tmp 214) (.tmp 218), []⟩,
     ⟨(some 220), (some (210, true)), .fieldAddr 4 none (.tmp 12), []⟩,
     ⟨(some 221), (some (210, true)), .load none (.tmp 220), []⟩,
     ⟨(some 222), (some (210, true)), .fieldAddr 2 none (.tmp 10), []⟩,
     ⟨(some 223), (some (210, true)), .load none (.tmp 222), []⟩,
     ⟨(some 224), (some (210, true)), .move (.tmp 14), []⟩,
     ⟨(some 225), (some (210, true)), .bin .sub (.tmp 223) (.tmp 224), []⟩,
     ⟨(some 226), (some (210, true)), .bin .mul (.tmp 221) (.tmp 225), []⟩,
     ⟨(some 227), (some (210, true)), .bin .sub (.tmp 219) (.tmp 226), []⟩,
     ⟨(some 228), (some (210, true)), .fieldAddr 4 none (.tmp 11), []⟩,
     ⟨(some 229), (some (210, true)), .load none (.tmp 228), []⟩,
     ⟨(some 230), (some (210, true)), .fieldAddr 2 none (.tmp 10), []⟩,
     ⟨(some 231), (some (210, true)), .load none (.tmp 230), []⟩,
     ⟨(some 232), (some (210, true)), .move (.tmp 13), []⟩,
     ⟨(some 233), (some (210, true)), .bin .sub (.tmp 231) (.tmp 232), []⟩,
     ⟨(some 234), (some (210, true)), .bin .mul (.tmp 229) (.tmp 233), []⟩,
     ⟨(some 235), (some (210, true)), .fieldAddr 4 none (.tmp 12), []⟩,
     ⟨(some 236), (some (210, true)), .load none (.tmp 235), []⟩,
     ⟨(some 237), (some (210, true)), .fieldAddr 2 none (.tmp 10), []⟩,
     ⟨(some 238), (some (210, true)), .load none (.tmp 237), []⟩,
     ⟨(some 239), (some (210, true)), .move (.tmp 14), []⟩,
     ⟨(some 240), (some (210, true)), .bin .sub (.tmp 238) (.tmp 239), []⟩,
     ⟨(some 241), (some (210, true)), .bin .mul (.tmp 236) (.tmp 240), []⟩,
     ⟨(some 242), (some (210, true)), .bin .add (.tmp 234) (.tmp 241), []⟩,
     ⟨(some 243), (some (210, true)), .call false (.const (.func 12 [] [])) [(.tmp 227), (.tmp 242)], [27]⟩,
     ⟨(some 244), (some (210, true)), .eql true [some .i64, some .i64] false (.tmp 211) (.tmp 243), []⟩,
     ⟨(some 245), none, .pick (.tmp 210) (.tmp 244) (.const (.bool false)), []⟩,
     ⟨(some 246), none, .move (.tmp 245), []⟩,
     ⟨(some 247), (some (246, true)), .call false (.const (.func 8 [] [])) [], []⟩,
     ⟨(some 248), none, .pick (.tmp 246) (.tmp 247) (.const (.bool false)), []⟩,
     ⟨(some 4), none, .move (.tmp 248), []⟩] [4])
   (.ret)))))))))))))))))))),
  [.tmp 4]⟩
def c6_l0 : VCode := .loop [1, 5, 6, 8, 9] (.seq (.seq (.region [⟨(some 34), none, .move (.tmp 6), []⟩,
       ⟨(some 35), none, .bin .gtr (.tmp 34) (.const (.int .i64 0)), []⟩] [1, 5, 6, 8, 9, 35])
     (.cond (.tmp 35) (.skip) (.exit 0)))
     (.block 1 (.seq (.region [⟨(some 36), none, .move (.tmp 8), []⟩,
        ⟨(some 37), none, .mkslice 1 [(.tmp 36)], []⟩,
        ⟨(some 38), none, .move (.tmp 9), []⟩,
        ⟨(some 39), none, .append 1 (.tmp 37) (.tmp 38), []⟩,
        ⟨(some 9), none, .move (.tmp 39), []⟩] [1, 5, 6, 8, 9])
      (.seq (.region [⟨(some 40), none, .move (.tmp 6), []⟩,
        ⟨(some 41), none, .move (.tmp 8), []⟩,
        ⟨(some 42), none, .bin .shl (.const (.int .i64 1)) (.tmp 41), []⟩,
        ⟨(some 43), none, .bin .andNot (.tmp 40) (.tmp 42), []⟩,
        ⟨(some 6), none, .move (.tmp 43), []⟩] [1, 5, 6, 9])
      (.region [⟨(some 44), none, .fieldAddr 4 none (.tmp 5), []⟩,
        ⟨(some 45), none, .load none (.tmp 44), []⟩,
        ⟨(some 46), none, .move (.tmp 6), []⟩,
        ⟨(some 47), none, .move (.tmp 6), []⟩,
        ⟨(some 48), none, .call false (.const (.func 31 [] [])) [(.tmp 47)], [1]⟩,
        ⟨(some 49), none, .build [.int .i64 0, .int .i64 0] [(0, 1, (.tmp 46)), (1, 1, (.tmp 48))], []⟩,
        ⟨(some 50), none, .lookup true [some .i64, some .i64] (.int .i64 0) false (.tmp 45) (.tmp 49), []⟩,
        ⟨(some 8), none, .move (.tmp 50), []⟩] [1, 5, 6, 8, 9])))))
def c6_l1 : VCode := .loop [1, 9, 10, 11, 51, 52, 53] (.seq (.region [⟨(some 54), none, .bin .lss (.tmp 53) (.tmp 52), []⟩] [1, 9, 10, 11, 51, 52, 53, 54])
     (.seq (.cond (.tmp 54) (.skip) (.exit 2))
     (.seq (.block 3 (.seq (.region [⟨(some 55), none, .move (.tmp 53), []⟩,
        ⟨(some 56), none, .idxAddr none 1 false (.tmp 51) (.tmp 53), []⟩,
        ⟨(some 57), none, .load none (.tmp 56), []⟩,
        ⟨(some 12), none, .move (.tmp 55), []⟩,
        ⟨(some 13), none, .move (.tmp 57), []⟩] [1, 9, 10, 11, 12, 13, 51, 52, 53])
      (.seq (.region [⟨(some 58), none, .load (some 3) (.tmp 1), []⟩,
        ⟨(some 59), none, .move (.tmp 13), []⟩,
        ⟨(some 60), none, .call false (.const (.func 32 [] [])) [(.tmp 58), (.tmp 59)], []⟩,
        ⟨(some 14), none, .alloc [.int .i64 0, .int .i64 0, .int .i64 0, .int .i64 0, .int .i64 0, .int .i64 0], []⟩,
        ⟨none, none, .store 6 (.tmp 14) (.tmp 60), []⟩] [1, 9, 10, 11, 12, 13, 14, 51, 52, 53])
      (.seq (.seq (.region [⟨(some 61), none, .move (.tmp 11), []⟩,
        ⟨(some 62), none, .fieldAddr 0 none (.tmp 1), []⟩,
        ⟨(some 63), none, .load none (.tmp 62), []⟩,
        ⟨(some 64), none, .bin .geq (.tmp 61) (.tmp 63), []⟩] [1, 9, 10, 11, 12, 13, 14, 51, 52, 53, 64])
      (.cond (.tmp 64) (.exit 2) (.skip)))
      (.seq (.region [⟨(some 65), none, .move (.tmp 10), []⟩,
        ⟨(some 66), none, .move (.tmp 13), []⟩,
        ⟨(some 67), none, .move (.tmp 11), []⟩,
        ⟨(some 68), none, .fieldAddr 0 (some 5) (.tmp 14), []⟩,
        ⟨(some 69), none, .fieldAddr 1 none (.tmp 68), []⟩,
        ⟨(some 70), none, .load none (.tmp 69), []⟩,
        ⟨(some 71), none, .bin .sub (.tmp 67) (.tmp 70), []⟩,
        ⟨(some 72), none, .move (.tmp 11), []⟩,
        ⟨(some 73), none, .build [.int .i64 0, .int .i64 0, .int .i64 0] [(0, 1, (.tmp 66)), (1, 1, (.tmp 71)), (2, 1, (.tmp 72))], []⟩,
        ⟨(some 74), none, .mkslice 3 [(.tmp 73)], []⟩,
        ⟨(some 75), none, .append 3 (.tmp 65) (.tmp 74), []⟩,
        ⟨(some 10), none, .move (.tmp 75), []⟩] [1, 9, 10, 11, 12, 14, 51, 52, 53])
      (.seq (.region [⟨(some 76), none, .move (.tmp 12), []⟩,
        ⟨(some 77), none, .bin .add (.tmp 76) (.const (.int .i64 1)), []⟩,
        ⟨(some 78), none, .move (.tmp 9), []⟩,
        ⟨(some 79), none, .len (.tmp 78), []⟩,
        ⟨(some 80), none, .bin .lss (.tmp 77) (.tmp 79), []⟩] [1, 9, 10, 11, 14, 51, 52, 53, 80])
      (.cond (.tmp 80) (.region [⟨(some 81), none, .move (.tmp 11), []⟩,
         ⟨(some 82), none, .load (some 6) (.tmp 14), []⟩,
         ⟨(some 83), none, .call false (.const (.func 33 [] [])) [(.tmp 82)], []⟩,
         ⟨(some 84), none, .bin .add (.tmp 81) (.tmp 83), []⟩,
         ⟨(some 11), none, .move (.tmp 84), []⟩] [1, 9, 10, 11, 51, 52, 53]) (.skip))))))))
     (.region [⟨(some 85), none, .bin .add (.tmp 53) (.const (.int .i64 1)), []⟩,
       ⟨(some 53), none, .move (.tmp 85), []⟩] [1, 9, 10, 11, 51, 52, 53]))))
/-- remontoir/spare.Plan -/
def c6 : VFunc :=
  ⟨92, .seq (.region [⟨(some 1), none, .box (.tmp 0), []⟩,
     ⟨(some 2), none, .move (.const (.slice 0 [] .nil)), []⟩,
     ⟨(some 3), none, .move (.const (.int .i64 0)), []⟩] [1])
   (.seq (.seq (.region [⟨(some 15), none, .load (some 3) (.tmp 1), []⟩,
     ⟨(some 16), none, .call false (.const (.func 7 [] [])) [(.tmp 15)], []⟩,
     ⟨(some 4), none, .move (.tmp 16), []⟩] [1, 4])
   (.seq (.region [⟨(some 17), none, .move (.tmp 4), []⟩,
     ⟨(some 18), none, .bin .neq (.tmp 17) (.const (.int .i64 0)), []⟩] [1, 4, 18])
   (.cond (.tmp 18) (.seq (.region [⟨(some 19), none, .move (.tmp 4), []⟩,
      ⟨(some 2), none, .move (.const (.slice 0 [] .nil)), []⟩,
      ⟨(some 3), none, .move (.tmp 19), []⟩] [2, 3])
    (.ret)) (.skip))))
   (.seq (.region [⟨(some 20), none, .load (some 3) (.tmp 1), []⟩,
     ⟨(some 21), none, .call false (.const (.func 27 [] [])) [(.tmp 20)], []⟩,
     ⟨(some 5), none, .alloc [.int .i64 0, .int .i64 0, .slice 0 [] .nil, .nilm, .nilm], []⟩,
     ⟨none, none, .store 5 (.tmp 5) (.tmp 21), []⟩] [1, 5])
   (.seq (.region [⟨(some 22), none, .load (some 5) (.tmp 5), []⟩,
     ⟨(some 23), none, .load (some 3) (.tmp 1), []⟩,
     ⟨(some 24), none, .call false (.const (.func 29 [] [])) [(.tmp 23)], [0]⟩,
     ⟨(some 25), none, .call false (.const (.func 28 [] [])) [(.tmp 22), (.tmp 24)], []⟩,
     ⟨(some 6), none, .move (.tmp 25), []⟩] [1, 5, 6])
   (.seq (.seq (.region [⟨(some 26), none, .move (.tmp 6), []⟩,
     ⟨(some 27), none, .bin .eql (.tmp 26) (.const (.int .i64 0)), []⟩] [1, 5, 6, 27])
   (.cond (.tmp 27) (.seq (.region [⟨(some 2), none, .move (.const (.slice 0 [] .nil)), []⟩,
      ⟨(some 3), none, .move (.const (.int .i64 4)), []⟩] [2, 3])
    (.ret)) (.skip)))
   (.seq (.region [⟨(some 29), none, .load (some 5) (.tmp 5), []⟩,
     ⟨(some 30), none, .move (.tmp 6), []⟩,
     ⟨(some 31), none, .call false (.const (.func 30 [] [])) [(.tmp 29), (.tmp 30)], []⟩,
     ⟨(some 28), none, .move (.tmp 31), []⟩,
     ⟨(some 32), none, .extract (.tmp 28) 0, []⟩,
     ⟨(some 33), none, .extract (.tmp 28) 1, []⟩,
     ⟨(some 7), none, .move (.tmp 32), []⟩,
     ⟨(some 8), none, .move (.tmp 33), []⟩] [1, 5, 6, 8])
   (.seq (.region [⟨(some 9), none, .move (.const (.slice 0 [] .nil)), []⟩] [1, 5, 6, 8, 9])
   (.seq (.block 0 (c6_l0))
   (.seq (.region [⟨(some 10), none, .move (.const (.slice 0 [] .nil)), []⟩] [1, 9, 10])
   (.seq (.region [⟨(some 11), none, .move (.const (.int .i64 0)), []⟩] [1, 9, 10, 11])
   (.seq (.seq (.region [⟨(some 51), none, .move (.tmp 9), []⟩,
     ⟨(some 52), none, .len (.tmp 51), []⟩,
     ⟨(some 53), none, .move (.const (.int .i64 0)), []⟩] [1, 9, 10, 11, 51, 52, 53])
   (.block 2 (c6_l1)))
   (.seq (.region [⟨(some 86), none, .move (.tmp 10), []⟩,
     ⟨(some 87), none, .move (.tmp 10), []⟩,
     ⟨(some 88), none, .len (.tmp 87), []⟩,
     ⟨(some 89), none, .move (.tmp 10), []⟩,
     ⟨(some 90), none, .len (.tmp 89), []⟩,
     ⟨(some 91), none, .slc 3 (.tmp 86) none (some (.tmp 88)) (some (.tmp 90)), []⟩,
     ⟨(some 2), none, .move (.tmp 91), []⟩,
     ⟨(some 3), none, .move (.const (.int .i64 0)), []⟩] [2, 3])
   (.ret)))))))))))),
  [.tmp 2, .tmp 3]⟩
def c7_l0 : VCode := .loop [3, 21, 22, 23] (.seq (.region [⟨(some 24), none, .bin .lss (.tmp 23) (.tmp 22), []⟩] [3, 21, 22, 23, 24])
     (.seq (.cond (.tmp 24) (.skip) (.exit 0))
     (.seq (.block 1 (.seq (.region [⟨(some 25), none, .idxAddr none 5 true (.tmp 21) (.tmp 23), []⟩,
        ⟨(some 26), none, .load (some 5) (.tmp 25), []⟩,
        ⟨(some 5), none, .alloc [.int .i64 0, .int .i64 0, .int .i64 0, .int .i64 0, .int .i64 0], []⟩,
        ⟨none, none, .store 5 (.tmp 5) (.tmp 26), []⟩] [3, 5, 21, 22, 23])
      (.region [⟨(some 27), none, .move (.tmp 3), []⟩,
        ⟨(some 28), none, .move (.tmp 27), []⟩,
        ⟨(some 29), (some (28, true)), .fieldAddr 0 none (.tmp 5), []⟩,
        ⟨(some 30), (some (28, true)), .load none (.tmp 29), []⟩,
        ⟨(some 31), (some (28, true)), .call false (.const (.func 34 [] [])) [(.tmp 30), (.const (.int .i64 (-500))), (.const (.int .i64 500))], []⟩,
        ⟨(some 32), none, .pick (.tmp 28) (.tmp 31) (.const (.bool false)), []⟩,
        ⟨(some 33), none, .move (.tmp 32), []⟩,
        ⟨(some 34), (some (33, true)), .fieldAddr 1 none (.tmp 5), []⟩,
        ⟨(some 35), (some (33, true)), .load none (.tmp 34), []⟩,
        ⟨(some 36), (some (33, true)), .call false (.const (.func 34 [] [])) [(.tmp 35), (.const (.int .i64 0)), (.const (.int .i64 500))], []⟩,
        ⟨(some 37), none, .pick (.tmp 33) (.tmp 36) (.const (.bool false)), []⟩,
        ⟨(some 38), none, .move (.tmp 37), []⟩,
        ⟨(some 39), (some (38, true)), .fieldAddr 2 (some 2) (.tmp 5), []⟩,
        ⟨(some 40), (some (38, true)), .fieldAddr 0 none (.tmp 39), []⟩,
        ⟨(some 41), (some (38, true)), .load none (.tmp 40), []⟩,
        ⟨(some 42), (some (38, true)), .bin .leq (.const (.int .i64 0)) (.tmp 41), []⟩,
        ⟨(some 43), none, .pick (.tmp 38) (.tmp 42) (.const (.bool false)), []⟩,
        ⟨(some 44), none, .move (.tmp 43), []⟩,
        ⟨(some 45), (some (44, true)), .fieldAddr 2 (some 2) (.tmp 5), []⟩,
        ⟨(some 46), (some (44, true)), .fieldAddr 0 none (.tmp 45), []⟩,
        ⟨(some 47), (some (44, true)), .load none (.tmp 46), []⟩,
        ⟨(some 48), (some (44, true)), .fieldAddr 2 (some 2) (.tmp 5), []⟩,
        ⟨(some 49), (some (44, true)), .fieldAddr 1 none (.tmp 48), []⟩,
        ⟨(some 50), (some (44, true)), .load none (.tmp 49), []⟩,
        ⟨(some 51), (some (44, true)), .bin .leq (.tmp 47) (.tmp 50), []⟩,
        ⟨(some 52), none, .pick (.tmp 44) (.tmp 51) (.const (.bool false)), []⟩,
        ⟨(some 53), none, .move (.tmp 52), []⟩,
        ⟨(some 54), (some (53, true)), .fieldAddr 2 (some 2) (.tmp 5), []⟩,
        ⟨(some 55), (some (53, true)), .fieldAddr 1 none (.tmp 54), []⟩,
        ⟨(some 56), (some (53, true)), .load none (.tmp 55), []⟩,
        ⟨(some 57), (some (53, true)), .bin .leq (.tmp 56) (.const (.int .i64 500)), []⟩,
        ⟨(some 58), none, .pick (.tmp 53) (.tmp 57) (.const (.bool false)), []⟩,
        ⟨(some 59), none, .move (.tmp 58), []⟩,
        ⟨(some 60), (some (59, true)), .fieldAddr 4 none (.tmp 5), []⟩,
        ⟨(some 61), (some (59, true)), .load none (.tmp 60), []⟩,
        ⟨(some 62), (some (59, true)), .call false (.const (.func 34 [] [])) [(.tmp 61), (.const (.int .i64 0)), (.const (.int .i64 100))], []⟩,
        ⟨(some 63), none, .pick (.tmp 59) (.tmp 62) (.const (.bool false)), []⟩,
        ⟨(some 3), none, .move (.tmp 63), []⟩] [3, 21, 22, 23])))
     (.region [⟨(some 64), none, .bin .add (.tmp 23) (.const (.int .i64 1)), []⟩,
       ⟨(some 23), none, .move (.tmp 64), []⟩] [3, 21, 22, 23]))))
/-- remontoir/spare.Check -/
def c7 : VFunc :=
  ⟨67, .seq (.region [⟨(some 1), none, .box (.tmp 0), []⟩,
     ⟨(some 2), none, .move (.const (.int .i64 0)), []⟩] [1])
   (.seq (.region [⟨(some 6), none, .fieldAddr 0 none (.tmp 1), []⟩,
     ⟨(some 7), none, .load none (.tmp 6), []⟩,
     ⟨(some 8), none, .call false (.const (.func 34 [] [])) [(.tmp 7), (.const (.int .i64 1)), (.const (.int .i64 500))], []⟩,
     ⟨(some 9), none, .move (.tmp 8), []⟩,
     ⟨(some 10), (some (9, true)), .fieldAddr 1 none (.tmp 1), []⟩,
     ⟨(some 11), (some (9, true)), .load none (.tmp 10), []⟩,
     ⟨(some 12), (some (9, true)), .call false (.const (.func 34 [] [])) [(.tmp 11), (.const (.int .i64 0)), (.const (.int .i64 1000))], []⟩,
     ⟨(some 13), none, .pick (.tmp 9) (.tmp 12) (.const (.bool false)), []⟩,
     ⟨(some 14), none, .move (.tmp 13), []⟩,
     ⟨(some 15), (some (14, true)), .fieldAddr 2 none (.tmp 1), []⟩,
     ⟨(some 16), (some (14, true)), .load none (.tmp 15), []⟩,
     ⟨(some 17), (some (14, true)), .len (.tmp 16), []⟩,
     ⟨(some 18), (some (14, true)), .call false (.const (.func 34 [] [])) [(.tmp 17), (.const (.int .i64 1)), (.const (.int .i64 8))], []⟩,
     ⟨(some 19), none, .pick (.tmp 14) (.tmp 18) (.const (.bool false)), []⟩,
     ⟨(some 3), none, .move (.tmp 19), []⟩] [1, 3])
   (.seq (.seq (.region [⟨(some 20), none, .fieldAddr 2 none (.tmp 1), []⟩,
     ⟨(some 21), none, .load none (.tmp 20), []⟩,
     ⟨(some 22), none, .len (.tmp 21), []⟩,
     ⟨(some 23), none, .move (.const (.int .i64 0)), []⟩] [3, 21, 22, 23])
   (.block 0 (c7_l0)))
   (.seq (.seq (.region [⟨(some 65), none, .move (.tmp 3), []⟩,
     ⟨(some 66), none, .not (.tmp 65), []⟩] [66])
   (.cond (.tmp 66) (.seq (.region [⟨(some 2), none, .move (.const (.int .i64 80)), []⟩] [2])
    (.ret)) (.skip)))
   (.seq (.region [⟨(some 2), none, .move (.const (.int .i64 0)), []⟩] [2])
   (.ret))))),
  [.tmp 2]⟩
/-- remontoir/remontoirtop.rings09 -/
def c8 : VFunc :=
  ⟨78, .seq (.region [⟨(some 0), none, .move (.const (.bool false)), []⟩] [])
   (.seq (.region [⟨(some 10), none, .mkslice 1 [(.const (.int .i64 0))], []⟩,
     ⟨(some 11), none, .build [.int .i64 0, .int .i64 0, .int .i64 0, .int .i64 0] [(2, 1, (.const (.int .i64 1)))], []⟩,
     ⟨(some 12), none, .build [.int .i64 0, .int .i64 0, .int .i64 0, .int .i64 0] [(2, 1, (.const (.int .i64 1)))], []⟩,
     ⟨(some 13), none, .mkslice 4 [(.tmp 11), (.tmp 12)], []⟩,
     ⟨(some 14), none, .mkslice 1 [(.tmp 13)], []⟩,
     ⟨(some 15), none, .build [.int .i64 0, .int .i64 0, .int .i64 0, .int .i64 0, .slice 0 [] .nil, .slice 0 [] .nil] [(0, 1, (.const (.int .i64 5))), (3, 1, (.const (.int .i64 1))), (4, 1, (.tmp 10)), (5, 1, (.tmp 14))], []⟩,
     ⟨(some 16), none, .call false (.const (.func 35 [] [])) [(.tmp 15)], []⟩,
     ⟨(some 9), none, .move (.tmp 16), []⟩,
     ⟨(some 17), none, .extract (.tmp 9) 0, []⟩,
     ⟨(some 18), none, .extract (.tmp 9) 1, []⟩,
     ⟨(some 1), none, .move (.tmp 17), []⟩,
     ⟨(some 2), none, .move (.tmp 18), []⟩] [1, 2])
   (.seq (.region [⟨(some 20), none, .call false (.const (.func 12 [] [])) [(.const (.int .i64 7)), (.const (.int .i64 9))], []⟩,
     ⟨(some 21), none, .build [.int .i64 0, .int .i64 0, .int .i64 0, .int .i64 0, .int .i64 0] [(2, 2, (.tmp 20))], []⟩,
     ⟨(some 22), none, .mkslice 5 [(.tmp 21)], []⟩,
     ⟨(some 23), none, .build [.int .i64 0, .int .i64 0, .slice 0 [] .nil] [(0, 1, (.const (.int .i64 1))), (2, 1, (.tmp 22))], []⟩,
     ⟨(some 24), none, .call false (.const (.func 36 [] [])) [(.tmp 23)], []⟩,
     ⟨(some 19), none, .move (.tmp 24), []⟩,
     ⟨(some 25), none, .extract (.tmp 19) 0, []⟩,
     ⟨(some 26), none, .extract (.tmp 19) 1, []⟩,
     ⟨(some 3), none, .move (.tmp 25), []⟩,
     ⟨(some 4), none, .move (.tmp 26), []⟩] [1, 2, 3, 4])
   (.seq (.region [⟨(some 28), none, .call false (.const (.func 12 [] [])) [(.const (.int .i64 (-2))), (.const (.int .i64 2))], []⟩,
     ⟨(some 29), none, .mkslice 2 [(.tmp 28)], []⟩,
     ⟨(some 30), none, .build [.int .i64 0, .int .i64 0, .int .i64 0, .int .i64 0, .int .i64 0] [(2, 1, (.const (.int .i64 (-1))))], []⟩,
     ⟨(some 31), none, .mkslice 5 [(.tmp 30)], []⟩,
     ⟨(some 32), none, .build [.int .i64 0, .slice 0 [] .nil, .slice 0 [] .nil, .slice 0 [] .nil] [(0, 1, (.const (.int .i64 1))), (1, 1, (.tmp 29)), (3, 1, (.tmp 31))], []⟩,
     ⟨(some 33), none, .call false (.const (.func 37 [] [])) [(.tmp 32), (.const (.int .i64 0)), (.const (.int .i64 1))], []⟩,
     ⟨(some 27), none, .move (.tmp 33), []⟩,
     ⟨(some 34), none, .extract (.tmp 27) 0, []⟩,
     ⟨(some 35), none, .extract (.tmp 27) 1, []⟩,
     ⟨(some 5), none, .alloc [.int .i64 0, .int .i64 0], []⟩,
     ⟨none, none, .store 2 (.tmp 5) (.tmp 34), []⟩,
     ⟨(some 6), none, .move (.tmp 35), []⟩] [1, 2, 3, 4, 5, 6])
   (.seq (.region [⟨(some 37), none, .mkslice 1 [(.const (.int .i64 3))], []⟩,
     ⟨(some 38), none, .mkslice 1 [(.const (.int .i64 4))], []⟩,
     ⟨(some 39), none, .build [.slice 0 [] .nil, .int .i64 0, .int .i64 0, .int .i64 0] [(0, 1, (.tmp 38)), (3, 1, (.const (.int .i64 1)))], []⟩,
     ⟨(some 40), none, .mkslice 4 [(.tmp 39)], []⟩,
     ⟨(some 41), none, .build [.slice 0 [] .nil, .slice 0 [] .nil, .int .i64 0, .int .i64 0, .int .i64 0, .int .i64 0] [(0, 1, (.tmp 37)), (1, 1, (.tmp 40))], []⟩,
     ⟨(some 42), none, .mkslice 1 [(.const (.int .i64 4))], []⟩,
     ⟨(some 43), none, .call false (.const (.func 38 [] [])) [(.tmp 41), (.tmp 42)], []⟩,
     ⟨(some 36), none, .move (.tmp 43), []⟩,
     ⟨(some 44), none, .extract (.tmp 36) 0, []⟩,
     ⟨(some 45), none, .extract (.tmp 36) 1, []⟩,
     ⟨(some 7), none, .move (.tmp 44), []⟩,
     ⟨(some 8), none, .move (.tmp 45), []⟩] [1, 2, 3, 4, 5, 6, 7, 8])
   (.seq (.region [⟨(some 46), none, .move (.tmp 2), []⟩,
     ⟨(some 47), none, .bin .eql (.tmp 46) (.const (.int .i64 0)), []⟩,
     ⟨(some 48), none, .move (.tmp 47), []⟩,
     ⟨(some 49), (some (48, true)), .move (.tmp 4), []⟩,
     ⟨(some 50), (some (48, true)), .bin .eql (.tmp 49) (.const (.int .i64 0)), []⟩,
     ⟨(some 51), none, .pick (.tmp 48) (.tmp 50) (.const (.bool false)), []⟩,
     ⟨(some 52), none, .move (.tmp 51), []⟩,
     ⟨(some 53), (some (52, true)), .move (.tmp 6), []⟩,
     ⟨(some 54), (some (52, true)), .bin .eql (.tmp 53) (.const (.int .i64 0)), []⟩,
     ⟨(some 55), none, .pick (.tmp 52) (.tmp 54) (.const (.bool false)), []⟩,
     ⟨(some 56), none, .move (.tmp 55), []⟩,
     ⟨(some 57), (some (56, true)), .move (.tmp 8), []⟩,
     ⟨(some 58), (some (56, true)), .bin .eql (.tmp 57) (.const (.int .i64 0)), []⟩,
     ⟨(some 59), none, .pick (.tmp 56) (.tmp 58) (.const (.bool false)), []⟩,
     ⟨(some 60), none, .move (.tmp 59), []⟩,
     ⟨(some 61), (some (60, true)), .move (.tmp 1), []⟩,
     ⟨(some 62), (some (60, true)), .bin .eql (.tmp 61) (.const (.int .i64 2)), []⟩,
     ⟨(some 63), none, .pick (.tmp 60) (.tmp 62) (.const (.bool false)), []⟩,
     ⟨(some 64), none, .move (.tmp 63), []⟩,
     ⟨(some 65), (some (64, true)), .move (.tmp 3), []⟩,
     ⟨(some 66), (some (64, true)), .bin .eql (.tmp 65) (.const (.int .i64 7)), []⟩,
     ⟨(some 67), none, .pick (.tmp 64) (.tmp 66) (.const (.bool false)), []⟩,
     ⟨(some 68), none, .move (.tmp 67), []⟩,
     ⟨(some 69), (some (68, true)), .load (some 2) (.tmp 5), []⟩,
     ⟨(some 70), (some (68, true)), .call false (.const (.func 12 [] [])) [(.const (.int .i64 (-2))), (.const (.int .i64 2))], [23]⟩,
     ⟨(some 71), (some (68, true)), .eql true [some .i64, some .i64] false (.tmp 69) (.tmp 70), []⟩,
     ⟨(some 72), none, .pick (.tmp 68) (.tmp 71) (.const (.bool false)), []⟩,
     ⟨(some 73), none, .move (.tmp 72), []⟩,
     ⟨(some 74), (some (73, true)), .move (.tmp 7), []⟩,
     ⟨(some 75), (some (73, true)), .mkslice 1 [(.const (.int .i64 0))], []⟩,
     ⟨(some 76), (some (73, true)), .call false (.const (.func 39 [] [])) [(.tmp 74), (.tmp 75)], []⟩,
     ⟨(some 77), none, .pick (.tmp 73) (.tmp 76) (.const (.bool false)), []⟩,
     ⟨(some 0), none, .move (.tmp 77), []⟩] [0])
   (.ret)))))),
  [.tmp 0]⟩
/-- remontoir/spare.IsPlan -/
def c9 : VFunc :=
  ⟨17, .seq (.region [⟨(some 2), none, .box (.tmp 0), []⟩,
     ⟨(some 4), none, .move (.const (.bool false)), []⟩,
     ⟨(some 5), none, .move (.const (.int .i64 0)), []⟩] [1, 2])
   (.seq (.seq (.region [⟨(some 7), none, .load (some 3) (.tmp 2), []⟩,
     ⟨(some 8), none, .call false (.const (.func 7 [] [])) [(.tmp 7)], []⟩,
     ⟨(some 6), none, .move (.tmp 8), []⟩] [1, 2, 6])
   (.seq (.region [⟨(some 9), none, .move (.tmp 6), []⟩,
     ⟨(some 10), none, .bin .neq (.tmp 9) (.const (.int .i64 0)), []⟩] [1, 2, 6, 10])
   (.cond (.tmp 10) (.seq (.region [⟨(some 11), none, .move (.tmp 6), []⟩,
      ⟨(some 4), none, .move (.const (.bool false)), []⟩,
      ⟨(some 5), none, .move (.tmp 11), []⟩] [4, 5])
    (.ret)) (.skip))))
   (.seq (.region [⟨(some 12), none, .load (some 3) (.tmp 2), []⟩,
     ⟨(some 13), none, .move (.tmp 1), []⟩,
     ⟨(some 14), none, .fieldAddr 0 none (.tmp 2), []⟩,
     ⟨(some 15), none, .load none (.tmp 14), []⟩,
     ⟨(some 16), none, .call false (.const (.func 40 [] [])) [(.tmp 12), (.tmp 13), (.tmp 15)], []⟩,
     ⟨(some 4), none, .move (.tmp 16), []⟩,
     ⟨(some 5), none, .move (.const (.int .i64 0)), []⟩] [4, 5])
   (.ret))),
  [.tmp 4, .tmp 5]⟩
/-- remontoir/remontoirref00.Rest -/
def c10 : VFunc :=
  ⟨15, .seq (.region [⟨(some 4), none, .move (.const (.int .i64 0)), []⟩] [0, 1])
   (.seq (.region [⟨(some 6), none, .move (.tmp 0), []⟩,
     ⟨(some 7), none, .move (.tmp 1), []⟩,
     ⟨(some 8), none, .bin .rem (.tmp 6) (.tmp 7), []⟩,
     ⟨(some 5), none, .move (.tmp 8), []⟩] [1, 5])
   (.seq (.seq (.region [⟨(some 9), none, .move (.tmp 5), []⟩,
     ⟨(some 10), none, .bin .lss (.tmp 9) (.const (.int .i64 0)), []⟩] [1, 5, 10])
   (.cond (.tmp 10) (.region [⟨(some 11), none, .move (.tmp 5), []⟩,
      ⟨(some 12), none, .move (.tmp 1), []⟩,
      ⟨(some 13), none, .bin .add (.tmp 11) (.tmp 12), []⟩,
      ⟨(some 5), none, .move (.tmp 13), []⟩] [5]) (.skip)))
   (.seq (.region [⟨(some 14), none, .move (.tmp 5), []⟩,
     ⟨(some 4), none, .move (.tmp 14), []⟩] [4])
   (.ret)))),
  [.tmp 4]⟩
/-- remontoir/remontoirref00.Lies -/
def c11 : VFunc :=
  ⟨15, .seq (.region [⟨(some 6), none, .move (.const (.bool false)), []⟩] [0, 1, 2])
   (.seq (.region [⟨(some 7), none, .move (.tmp 1), []⟩,
     ⟨(some 8), none, .move (.tmp 0), []⟩,
     ⟨(some 9), none, .bin .leq (.tmp 7) (.tmp 8), []⟩,
     ⟨(some 10), none, .move (.tmp 9), []⟩,
     ⟨(some 11), (some (10, true)), .move (.tmp 0), []⟩,
     ⟨(some 12), (some (10, true)), .move (.tmp 2), []⟩,
     ⟨(some 13), (some (10, true)), .bin .leq (.tmp 11) (.tmp 12), []⟩,
     ⟨(some 14), none, .pick (.tmp 10) (.tmp 13) (.const (.bool false)), []⟩,
     ⟨(some 6), none, .move (.tmp 14), []⟩] [6])
   (.ret)),
  [.tmp 6]⟩
/-- remontoir/remontoirref00.To -/
def c12 : VFunc :=
  ⟨8, .seq (.region [⟨(some 4), none, .alloc [.int .i64 0, .int .i64 0], []⟩] [0, 1, 4])
   (.seq (.region [⟨(some 5), none, .move (.tmp 0), []⟩,
     ⟨(some 6), none, .move (.tmp 1), []⟩,
     ⟨(some 7), none, .build [.int .i64 0, .int .i64 0] [(0, 1, (.tmp 5)), (1, 1, (.tmp 6))], []⟩,
     ⟨none, none, .store 2 (.tmp 4) (.tmp 7), []⟩] [4])
   (.ret)),
  [.cell 4 (some 2)]⟩
/-- remontoir/beat.Apart -/
def c13 : VFunc :=
  ⟨39, .seq (.region [⟨(some 4), none, .box (.tmp 0), []⟩,
     ⟨(some 8), none, .alloc [.int .i64 0, .int .i64 0], []⟩,
     ⟨(some 9), none, .move (.const (.int .i64 0)), []⟩] [1, 2, 3, 4, 8])
   (.seq (.region [⟨(some 13), none, .load (some 4) (.tmp 4), []⟩,
     ⟨(some 14), none, .load (some 4) (.tmp 4), []⟩,
     ⟨(some 15), none, .move (.tmp 1), []⟩,
     ⟨(some 16), none, .move (.tmp 3), []⟩,
     ⟨(some 17), none, .call false (.const (.func 42 [] [])) [(.tmp 14), (.tmp 15), (.tmp 16)], [0]⟩,
     ⟨(some 18), none, .move (.tmp 17), []⟩,
     ⟨(some 19), (some (18, true)), .load (some 4) (.tmp 4), []⟩,
     ⟨(some 20), (some (18, true)), .move (.tmp 2), []⟩,
     ⟨(some 21), (some (18, true)), .move (.tmp 3), []⟩,
     ⟨(some 22), (some (18, true)), .call false (.const (.func 42 [] [])) [(.tmp 19), (.tmp 20), (.tmp 21)], [0]⟩,
     ⟨(some 23), none, .pick (.tmp 18) (.tmp 22) (.const (.bool false)), []⟩,
     ⟨(some 24), none, .call false (.const (.func 41 [] [])) [(.tmp 13), (.tmp 23)], []⟩,
     ⟨(some 12), none, .move (.tmp 24), []⟩,
     ⟨(some 25), none, .extract (.tmp 12) 0, []⟩,
     ⟨(some 26), none, .extract (.tmp 12) 1, []⟩,
     ⟨(some 10), none, .alloc [.int .i64 0, .slice 0 [] .nil, .slice 0 [] .nil, .slice 0 [] .nil, .int .i64 0, .nilm], [0, 1, 6]⟩,
     ⟨none, none, .store 6 (.tmp 10) (.tmp 25), []⟩,
     ⟨(some 11), none, .move (.tmp 26), []⟩] [1, 2, 3, 8, 10, 11])
   (.seq (.seq (.region [⟨(some 27), none, .move (.tmp 11), []⟩,
     ⟨(some 28), none, .bin .neq (.tmp 27) (.const (.int .i64 0)), []⟩] [1, 2, 3, 8, 10, 11, 28])
   (.cond (.tmp 28) (.seq (.region [⟨(some 29), none, .build [.int .i64 0, .int .i64 0] [], []⟩,
      ⟨(some 30), none, .move (.tmp 11), []⟩,
      ⟨none, none, .store 2 (.tmp 8) (.tmp 29), []⟩,
      ⟨(some 9), none, .move (.tmp 30), []⟩] [8, 9])
    (.ret)) (.skip)))
   (.seq (.region [⟨(some 31), none, .load (some 6) (.tmp 10), []⟩,
     ⟨(some 32), none, .move (.tmp 1), []⟩,
     ⟨(some 33), none, .move (.tmp 3), []⟩,
     ⟨(some 34), none, .build [.int .i64 0, .int .i64 0] [(0, 1, (.tmp 32)), (1, 1, (.tmp 33))], []⟩,
     ⟨(some 35), none, .move (.tmp 2), []⟩,
     ⟨(some 36), none, .move (.tmp 3), []⟩,
     ⟨(some 37), none, .build [.int .i64 0, .int .i64 0] [(0, 1, (.tmp 35)), (1, 1, (.tmp 36))], []⟩,
     ⟨(some 38), none, .call false (.const (.func 43 [] [])) [(.tmp 31), (.tmp 34), (.tmp 37)], []⟩,
     ⟨none, none, .store 2 (.tmp 8) (.tmp 38), []⟩,
     ⟨(some 9), none, .move (.const (.int .i64 0)), []⟩] [8, 9])
   (.ret)))),
  [.cell 8 (some 2), .tmp 9]⟩
/-- remontoir/remontoirref00.Valid -/
def c14 : VFunc :=
  ⟨24, .seq (.region [⟨(some 3), none, .box (.tmp 0), []⟩,
     ⟨(some 6), none, .move (.const (.bool false)), []⟩] [1, 2, 3])
   (.seq (.region [⟨(some 7), none, .fieldAddr 0 none (.tmp 3), []⟩,
     ⟨(some 8), none, .load none (.tmp 7), []⟩,
     ⟨(some 9), none, .fieldAddr 1 none (.tmp 3), []⟩,
     ⟨(some 10), none, .load none (.tmp 9), []⟩,
     ⟨(some 11), none, .bin .leq (.tmp 8) (.tmp 10), []⟩,
     ⟨(some 12), none, .move (.tmp 11), []⟩,
     ⟨(some 13), (some (12, true)), .move (.tmp 1), []⟩,
     ⟨(some 14), (some (12, true)), .fieldAddr 0 none (.tmp 3), []⟩,
     ⟨(some 15), (some (12, true)), .load none (.tmp 14), []⟩,
     ⟨(some 16), (some (12, true)), .bin .leq (.tmp 13) (.tmp 15), []⟩,
     ⟨(some 17), none, .pick (.tmp 12) (.tmp 16) (.const (.bool false)), []⟩,
     ⟨(some 18), none, .move (.tmp 17), []⟩,
     ⟨(some 19), (some (18, true)), .fieldAddr 1 none (.tmp 3), []⟩,
     ⟨(some 20), (some (18, true)), .load none (.tmp 19), []⟩,
     ⟨(some 21), (some (18, true)), .move (.tmp 2), []⟩,
     ⟨(some 22), (some (18, true)), .bin .leq (.tmp 20) (.tmp 21), []⟩,
     ⟨(some 23), none, .pick (.tmp 18) (.tmp 22) (.const (.bool false)), []⟩,
     ⟨(some 6), none, .move (.tmp 23), []⟩] [6])
   (.ret)),
  [.tmp 6]⟩
def c16_l0 : VCode := .loop [1, 3, 29, 30, 31] (.seq (.region [⟨(some 32), none, .bin .lss (.tmp 31) (.tmp 30), []⟩] [1, 3, 29, 30, 31, 32])
     (.seq (.cond (.tmp 32) (.skip) (.exit 0))
     (.seq (.block 1 (.seq (.region [⟨(some 33), none, .idxAddr none 1 false (.tmp 29) (.tmp 31), []⟩,
        ⟨(some 34), none, .load none (.tmp 33), []⟩,
        ⟨(some 5), none, .move (.tmp 34), []⟩] [1, 3, 5, 29, 30, 31])
      (.region [⟨(some 35), none, .move (.tmp 3), []⟩,
        ⟨(some 36), none, .move (.tmp 35), []⟩,
        ⟨(some 37), (some (36, true)), .move (.tmp 5), []⟩,
        ⟨(some 38), (some (36, true)), .call false (.const (.func 46 [] [])) [(.tmp 37), (.const (.int .i64 1)), (.const (.int .i64 500))], []⟩,
        ⟨(some 39), none, .pick (.tmp 36) (.tmp 38) (.const (.bool false)), []⟩,
        ⟨(some 3), none, .move (.tmp 39), []⟩] [1, 3, 29, 30, 31])))
     (.region [⟨(some 40), none, .bin .add (.tmp 31) (.const (.int .i64 1)), []⟩,
       ⟨(some 31), none, .move (.tmp 40), []⟩] [1, 3, 29, 30, 31]))))
def c16_l1 : VCode := .loop [1, 3, 42, 43, 44] (.seq (.region [⟨(some 45), none, .bin .lss (.tmp 44) (.tmp 43), []⟩] [1, 3, 42, 43, 44, 45])
     (.seq (.cond (.tmp 45) (.skip) (.exit 2))
     (.seq (.block 3 (.seq (.region [⟨(some 46), none, .idxAddr none 4 true (.tmp 42) (.tmp 44), []⟩,
        ⟨(some 47), none, .load (some 4) (.tmp 46), []⟩,
        ⟨(some 7), none, .alloc [.slice 0 [] .nil, .int .i64 0, .int .i64 0, .int .i64 0], []⟩,
        ⟨none, none, .store 4 (.tmp 7) (.tmp 47), []⟩] [1, 3, 7, 42, 43, 44])
      (.seq (.region [⟨(some 48), none, .move (.tmp 3), []⟩,
        ⟨(some 49), none, .move (.tmp 48), []⟩,
        ⟨(some 50), (some (49, true)), .fieldAddr 0 none (.tmp 7), []⟩,
        ⟨(some 51), (some (49, true)), .load none (.tmp 50), []⟩,
        ⟨(some 52), (some (49, true)), .call false (.const (.func 48 [] [])) [(.tmp 51), (.const (.int .i64 4))], []⟩,
        ⟨(some 53), none, .pick (.tmp 49) (.tmp 52) (.const (.bool false)), []⟩,
        ⟨(some 54), none, .move (.tmp 53), []⟩,
        ⟨(some 55), (some (54, true)), .fieldAddr 1 none (.tmp 7), []⟩,
        ⟨(some 56), (some (54, true)), .load none (.tmp 55), []⟩,
        ⟨(some 57), (some (54, true)), .fieldAddr 0 none (.tmp 1), []⟩,
        ⟨(some 58), (some (54, true)), .load none (.tmp 57), []⟩,
        ⟨(some 59), (some (54, true)), .len (.tmp 58), []⟩,
        ⟨(some 60), (some (54, true)), .bin .sub (.tmp 59) (.const (.int .i64 1)), []⟩,
        ⟨(some 61), (some (54, true)), .call false (.const (.func 46 [] [])) [(.tmp 56), (.const (.int .i64 0)), (.tmp 60)], []⟩,
        ⟨(some 62), none, .pick (.tmp 54) (.tmp 61) (.const (.bool false)), []⟩,
        ⟨(some 3), none, .move (.tmp 62), []⟩] [1, 3, 7, 42, 43, 44])
      (.region [⟨(some 63), none, .move (.tmp 3), []⟩,
        ⟨(some 64), none, .move (.tmp 63), []⟩,
        ⟨(some 65), (some (64, true)), .fieldAddr 2 none (.tmp 7), []⟩,
        ⟨(some 66), (some (64, true)), .load none (.tmp 65), []⟩,
        ⟨(some 67), (some (64, true)), .fieldAddr 0 none (.tmp 1), []⟩,
        ⟨(some 68), (some (64, true)), .load none (.tmp 67), []⟩,
        ⟨(some 69), (some (64, true)), .fieldAddr 1 none (.tmp 7), []⟩,
        ⟨(some 70), (some (64, true)), .load none (.tmp 69), []⟩,
        ⟨(some 71), (some (64, true)), .idxAddr none 1 false (.tmp 68) (.tmp 70), []⟩,
        ⟨(some 72), (some (64, true)), .load none (.tmp 71), []⟩,
        ⟨(some 73), (some (64, true)), .bin .sub (.tmp 72) (.const (.int .i64 1)), []⟩,
        ⟨(some 74), (some (64, true)), .call false (.const (.func 46 [] [])) [(.tmp 66), (.const (.int .i64 0)), (.tmp 73)], []⟩,
        ⟨(some 75), none, .pick (.tmp 64) (.tmp 74) (.const (.bool false)), []⟩,
        ⟨(some 76), none, .move (.tmp 75), []⟩,
        ⟨(some 77), (some (76, true)), .fieldAddr 3 none (.tmp 7), []⟩,
        ⟨(some 78), (some (76, true)), .load none (.tmp 77), []⟩,
        ⟨(some 79), (some (76, true)), .fieldAddr 0 none (.tmp 1), []⟩,
        ⟨(some 80), (some (76, true)), .load none (.tmp 79), []⟩,
        ⟨(some 81), (some (76, true)), .fieldAddr 1 none (.tmp 7), []⟩,
        ⟨(some 82), (some (76, true)), .load none (.tmp 81), []⟩,
        ⟨(some 83), (some (76, true)), .idxAddr none 1 false (.tmp 80) (.tmp 82), []⟩,
        ⟨(some 84), (some (76, true)), .load none (.tmp 83), []⟩,
        ⟨(some 85), (some (76, true)), .call false (.const (.func 46 [] [])) [(.tmp 78), (.const (.int .i64 1)), (.tmp 84)], []⟩,
        ⟨(some 86), none, .pick (.tmp 76) (.tmp 85) (.const (.bool false)), []⟩,
        ⟨(some 3), none, .move (.tmp 86), []⟩] [1, 3, 42, 43, 44]))))
     (.region [⟨(some 87), none, .bin .add (.tmp 44) (.const (.int .i64 1)), []⟩,
       ⟨(some 44), none, .move (.tmp 87), []⟩] [1, 3, 42, 43, 44]))))
/-- remontoir/voice.Check -/
def c16 : VFunc :=
  ⟨90, .seq (.region [⟨(some 1), none, .box (.tmp 0), []⟩,
     ⟨(some 2), none, .move (.const (.int .i64 0)), []⟩] [1])
   (.seq (.region [⟨(some 8), none, .fieldAddr 0 none (.tmp 1), []⟩,
     ⟨(some 9), none, .load none (.tmp 8), []⟩,
     ⟨(some 10), none, .len (.tmp 9), []⟩,
     ⟨(some 11), none, .call false (.const (.func 46 [] [])) [(.tmp 10), (.const (.int .i64 1)), (.const (.int .i64 4))], []⟩,
     ⟨(some 12), none, .move (.tmp 11), []⟩,
     ⟨(some 13), (some (12, true)), .fieldAddr 1 none (.tmp 1), []⟩,
     ⟨(some 14), (some (12, true)), .load none (.tmp 13), []⟩,
     ⟨(some 15), (some (12, true)), .len (.tmp 14), []⟩,
     ⟨(some 16), (some (12, true)), .call false (.const (.func 46 [] [])) [(.tmp 15), (.const (.int .i64 1)), (.const (.int .i64 10))], []⟩,
     ⟨(some 17), none, .pick (.tmp 12) (.tmp 16) (.const (.bool false)), []⟩,
     ⟨(some 18), none, .move (.tmp 17), []⟩,
     ⟨(some 19), (some (18, true)), .fieldAddr 2 (some 2) (.tmp 1), []⟩,
     ⟨(some 20), (some (18, true)), .load (some 2) (.tmp 19), []⟩,
     ⟨(some 21), (some (18, true)), .call false (.const (.func 47 [] [])) [(.tmp 20), (.const (.int .i64 0)), (.const (.int .i64 200))], []⟩,
     ⟨(some 22), none, .pick (.tmp 18) (.tmp 21) (.const (.bool false)), []⟩,
     ⟨(some 23), none, .move (.tmp 22), []⟩,
     ⟨(some 24), (some (23, true)), .fieldAddr 4 (some 2) (.tmp 1), []⟩,
     ⟨(some 25), (some (23, true)), .load (some 2) (.tmp 24), []⟩,
     ⟨(some 26), (some (23, true)), .call false (.const (.func 47 [] [])) [(.tmp 25), (.const (.int .i64 0)), (.const (.int .i64 500))], []⟩,
     ⟨(some 27), none, .pick (.tmp 23) (.tmp 26) (.const (.bool false)), []⟩,
     ⟨(some 3), none, .move (.tmp 27), []⟩] [1, 3])
   (.seq (.seq (.region [⟨(some 28), none, .fieldAddr 0 none (.tmp 1), []⟩,
     ⟨(some 29), none, .load none (.tmp 28), []⟩,
     ⟨(some 30), none, .len (.tmp 29), []⟩,
     ⟨(some 31), none, .move (.const (.int .i64 0)), []⟩] [1, 3, 29, 30, 31])
   (.block 0 (c16_l0)))
   (.seq (.seq (.region [⟨(some 41), none, .fieldAddr 1 none (.tmp 1), []⟩,
     ⟨(some 42), none, .load none (.tmp 41), []⟩,
     ⟨(some 43), none, .len (.tmp 42), []⟩,
     ⟨(some 44), none, .move (.const (.int .i64 0)), []⟩] [1, 3, 42, 43, 44])
   (.block 2 (c16_l1)))
   (.seq (.seq (.region [⟨(some 88), none, .move (.tmp 3), []⟩,
     ⟨(some 89), none, .not (.tmp 88), []⟩] [89])
   (.cond (.tmp 89) (.seq (.region [⟨(some 2), none, .move (.const (.int .i64 50)), []⟩] [2])
    (.ret)) (.skip)))
   (.seq (.region [⟨(some 2), none, .move (.const (.int .i64 0)), []⟩] [2])
   (.ret)))))),
  [.tmp 2]⟩
def c23_l0 : VCode := .loop [1, 3, 42, 43, 44] (.seq (.region [⟨(some 45), none, .bin .lss (.tmp 44) (.tmp 43), []⟩] [1, 3, 42, 43, 44, 45])
     (.seq (.cond (.tmp 45) (.skip) (.exit 0))
     (.seq (.block 1 (.seq (.region [⟨(some 46), none, .idxAddr none 1 false (.tmp 42) (.tmp 44), []⟩,
        ⟨(some 47), none, .load none (.tmp 46), []⟩,
        ⟨(some 5), none, .move (.tmp 47), []⟩] [1, 3, 5, 42, 43, 44])
      (.region [⟨(some 48), none, .move (.tmp 3), []⟩,
        ⟨(some 49), none, .move (.tmp 48), []⟩,
        ⟨(some 50), (some (49, true)), .move (.tmp 5), []⟩,
        ⟨(some 51), (some (49, true)), .call false (.const (.func 57 [] [])) [(.tmp 50), (.const (.int .i64 0)), (.const (.int .i64 100))], []⟩,
        ⟨(some 52), none, .pick (.tmp 49) (.tmp 51) (.const (.bool false)), []⟩,
        ⟨(some 3), none, .move (.tmp 52), []⟩] [1, 3, 42, 43, 44])))
     (.region [⟨(some 53), none, .bin .add (.tmp 44) (.const (.int .i64 1)), []⟩,
       ⟨(some 44), none, .move (.tmp 53), []⟩] [1, 3, 42, 43, 44]))))
def c23_l2 : VCode := .loop [1, 3, 8, 55, 56, 57, 67, 68, 69] (.seq (.region [⟨(some 70), none, .bin .lss (.tmp 69) (.tmp 68), []⟩] [1, 3, 8, 55, 56, 57, 67, 68, 69, 70])
        (.seq (.cond (.tmp 70) (.skip) (.exit 4))
        (.seq (.block 5 (.seq (.region [⟨(some 71), none, .idxAddr none 4 true (.tmp 67) (.tmp 69), []⟩,
           ⟨(some 72), none, .load (some 4) (.tmp 71), []⟩,
           ⟨(some 10), none, .alloc [.int .i64 0, .int .i64 0, .int .i64 0, .int .i64 0], []⟩,
           ⟨none, none, .store 4 (.tmp 10) (.tmp 72), []⟩] [1, 3, 8, 10, 55, 56, 57, 67, 68, 69])
         (.seq (.region [⟨(some 73), none, .move (.tmp 3), []⟩,
           ⟨(some 74), none, .move (.tmp 73), []⟩,
           ⟨(some 75), (some (74, true)), .load (some 6) (.tmp 1), []⟩,
           ⟨(some 76), (some (74, true)), .load (some 4) (.tmp 10), []⟩,
           ⟨(some 77), (some (74, true)), .call false (.const (.func 58 [] [])) [(.tmp 75), (.tmp 76)], []⟩,
           ⟨(some 78), none, .pick (.tmp 74) (.tmp 77) (.const (.bool false)), []⟩,
           ⟨(some 79), none, .move (.tmp 78), []⟩,
           ⟨(some 80), (some (79, true)), .move (.tmp 8), []⟩,
           ⟨(some 81), (some (79, true)), .fieldAddr 0 none (.tmp 10), []⟩,
           ⟨(some 82), (some (79, true)), .load none (.tmp 81), []⟩,
           ⟨(some 83), (some (79, true)), .bin .leq (.tmp 80) (.tmp 82), []⟩,
           ⟨(some 84), none, .pick (.tmp 79) (.tmp 83) (.const (.bool false)), []⟩,
           ⟨(some 3), none, .move (.tmp 84), []⟩] [1, 3, 10, 55, 56, 57, 67, 68, 69])
         (.region [⟨(some 85), none, .fieldAddr 0 none (.tmp 10), []⟩,
           ⟨(some 86), none, .load none (.tmp 85), []⟩,
           ⟨(some 8), none, .move (.tmp 86), []⟩] [1, 3, 8, 55, 56, 57, 67, 68, 69]))))
        (.region [⟨(some 87), none, .bin .add (.tmp 69) (.const (.int .i64 1)), []⟩,
          ⟨(some 69), none, .move (.tmp 87), []⟩] [1, 3, 8, 55, 56, 57, 67, 68, 69]))))
def c23_l1 : VCode := .loop [1, 3, 55, 56, 57] (.seq (.region [⟨(some 58), none, .bin .lss (.tmp 57) (.tmp 56), []⟩] [1, 3, 55, 56, 57, 58])
     (.seq (.cond (.tmp 58) (.skip) (.exit 2))
     (.seq (.block 3 (.seq (.region [⟨(some 59), none, .idxAddr none 1 false (.tmp 55) (.tmp 57), []⟩,
        ⟨(some 60), none, .load none (.tmp 59), []⟩,
        ⟨(some 7), none, .move (.tmp 60), []⟩] [1, 3, 7, 55, 56, 57])
      (.seq (.region [⟨(some 61), none, .move (.tmp 3), []⟩,
        ⟨(some 62), none, .move (.tmp 61), []⟩,
        ⟨(some 63), (some (62, true)), .move (.tmp 7), []⟩,
        ⟨(some 64), (some (62, true)), .len (.tmp 63), []⟩,
        ⟨(some 65), (some (62, true)), .bin .leq (.tmp 64) (.const (.int .i64 12)), []⟩,
        ⟨(some 66), none, .pick (.tmp 62) (.tmp 65) (.const (.bool false)), []⟩,
        ⟨(some 3), none, .move (.tmp 66), []⟩] [1, 3, 7, 55, 56, 57])
      (.seq (.region [⟨(some 8), none, .move (.const (.int .i64 0)), []⟩] [1, 3, 7, 8, 55, 56, 57])
      (.seq (.region [⟨(some 67), none, .move (.tmp 7), []⟩,
        ⟨(some 68), none, .len (.tmp 67), []⟩,
        ⟨(some 69), none, .move (.const (.int .i64 0)), []⟩] [1, 3, 8, 55, 56, 57, 67, 68, 69])
      (.block 4 (c23_l2)))))))
     (.region [⟨(some 88), none, .bin .add (.tmp 57) (.const (.int .i64 1)), []⟩,
       ⟨(some 57), none, .move (.tmp 88), []⟩] [1, 3, 55, 56, 57]))))
/-- remontoir/caller.Check -/
def c23 : VFunc :=
  ⟨91, .seq (.region [⟨(some 1), none, .box (.tmp 0), []⟩,
     ⟨(some 2), none, .move (.const (.int .i64 0)), []⟩] [1])
   (.seq (.region [⟨(some 11), none, .fieldAddr 0 none (.tmp 1), []⟩,
     ⟨(some 12), none, .load none (.tmp 11), []⟩,
     ⟨(some 13), none, .call false (.const (.func 57 [] [])) [(.tmp 12), (.const (.int .i64 1)), (.const (.int .i64 60))], []⟩,
     ⟨(some 14), none, .move (.tmp 13), []⟩,
     ⟨(some 15), (some (14, true)), .fieldAddr 1 none (.tmp 1), []⟩,
     ⟨(some 16), (some (14, true)), .load none (.tmp 15), []⟩,
     ⟨(some 17), (some (14, true)), .call false (.const (.func 57 [] [])) [(.tmp 16), (.const (.int .i64 0)), (.const (.int .i64 100))], []⟩,
     ⟨(some 18), none, .pick (.tmp 14) (.tmp 17) (.const (.bool false)), []⟩,
     ⟨(some 19), none, .move (.tmp 18), []⟩,
     ⟨(some 20), (some (19, true)), .fieldAddr 2 none (.tmp 1), []⟩,
     ⟨(some 21), (some (19, true)), .load none (.tmp 20), []⟩,
     ⟨(some 22), (some (19, true)), .call false (.const (.func 57 [] [])) [(.tmp 21), (.const (.int .i64 0)), (.const (.int .i64 100))], []⟩,
     ⟨(some 23), none, .pick (.tmp 19) (.tmp 22) (.const (.bool false)), []⟩,
     ⟨(some 24), none, .move (.tmp 23), []⟩,
     ⟨(some 25), (some (24, true)), .fieldAddr 3 none (.tmp 1), []⟩,
     ⟨(some 26), (some (24, true)), .load none (.tmp 25), []⟩,
     ⟨(some 27), (some (24, true)), .call false (.const (.func 57 [] [])) [(.tmp 26), (.const (.int .i64 1)), (.const (.int .i64 600))], []⟩,
     ⟨(some 28), none, .pick (.tmp 24) (.tmp 27) (.const (.bool false)), []⟩,
     ⟨(some 29), none, .move (.tmp 28), []⟩,
     ⟨(some 30), (some (29, true)), .fieldAddr 4 none (.tmp 1), []⟩,
     ⟨(some 31), (some (29, true)), .load none (.tmp 30), []⟩,
     ⟨(some 32), (some (29, true)), .len (.tmp 31), []⟩,
     ⟨(some 33), (some (29, true)), .call false (.const (.func 57 [] [])) [(.tmp 32), (.const (.int .i64 1)), (.const (.int .i64 4))], []⟩,
     ⟨(some 34), none, .pick (.tmp 29) (.tmp 33) (.const (.bool false)), []⟩,
     ⟨(some 35), none, .move (.tmp 34), []⟩,
     ⟨(some 36), (some (35, true)), .fieldAddr 5 none (.tmp 1), []⟩,
     ⟨(some 37), (some (35, true)), .load none (.tmp 36), []⟩,
     ⟨(some 38), (some (35, true)), .len (.tmp 37), []⟩,
     ⟨(some 39), (some (35, true)), .call false (.const (.func 57 [] [])) [(.tmp 38), (.const (.int .i64 1)), (.const (.int .i64 5))], []⟩,
     ⟨(some 40), none, .pick (.tmp 35) (.tmp 39) (.const (.bool false)), []⟩,
     ⟨(some 3), none, .move (.tmp 40), []⟩] [1, 3])
   (.seq (.seq (.region [⟨(some 41), none, .fieldAddr 4 none (.tmp 1), []⟩,
     ⟨(some 42), none, .load none (.tmp 41), []⟩,
     ⟨(some 43), none, .len (.tmp 42), []⟩,
     ⟨(some 44), none, .move (.const (.int .i64 0)), []⟩] [1, 3, 42, 43, 44])
   (.block 0 (c23_l0)))
   (.seq (.seq (.region [⟨(some 54), none, .fieldAddr 5 none (.tmp 1), []⟩,
     ⟨(some 55), none, .load none (.tmp 54), []⟩,
     ⟨(some 56), none, .len (.tmp 55), []⟩,
     ⟨(some 57), none, .move (.const (.int .i64 0)), []⟩] [1, 3, 55, 56, 57])
   (.block 2 (c23_l1)))
   (.seq (.seq (.region [⟨(some 89), none, .move (.tmp 3), []⟩,
     ⟨(some 90), none, .not (.tmp 89), []⟩] [90])
   (.cond (.tmp 90) (.seq (.region [⟨(some 2), none, .move (.const (.int .i64 90)), []⟩] [2])
    (.ret)) (.skip)))
   (.seq (.region [⟨(some 2), none, .move (.const (.int .i64 0)), []⟩] [2])
   (.ret)))))),
  [.tmp 2]⟩
def c27_l0 : VCode := .loop [2, 3, 4, 21, 22] (.seq (.region [⟨(some 23), none, .bin .lss (.tmp 22) (.tmp 21), []⟩] [2, 3, 4, 21, 22, 23])
     (.seq (.cond (.tmp 23) (.skip) (.exit 0))
     (.seq (.block 1 (.seq (.region [⟨(some 24), none, .move (.tmp 22), []⟩,
        ⟨(some 5), none, .move (.tmp 24), []⟩] [2, 3, 4, 5, 21, 22])
      (.region [⟨(some 25), none, .load none (.tmp 4), []⟩,
        ⟨(some 26), none, .move (.tmp 5), []⟩,
        ⟨(some 27), none, .call false (.tmp 25) [(.tmp 26)], []⟩] [2, 3, 4, 21, 22])))
     (.region [⟨(some 28), none, .bin .add (.tmp 22) (.const (.int .i64 1)), []⟩,
       ⟨(some 22), none, .move (.tmp 28), []⟩] [2, 3, 4, 21, 22]))))
/-- remontoir/spare.opened -/
def c27 : VFunc :=
  ⟨30, .seq (.region [⟨(some 1), none, .box (.tmp 0), []⟩,
     ⟨(some 2), none, .alloc [.int .i64 0, .int .i64 0, .slice 0 [] .nil, .nilm, .nilm], []⟩] [1, 2])
   (.seq (.region [⟨(some 6), none, .load (some 3) (.tmp 1), []⟩,
     ⟨(some 7), none, .mkmap, []⟩,
     ⟨(some 8), none, .mkmap, []⟩,
     ⟨(some 9), none, .build [.int .i64 0, .int .i64 0, .slice 0 [] .nil, .nilm, .nilm] [(0, 3, (.tmp 6)), (3, 1, (.tmp 7)), (4, 1, (.tmp 8))], []⟩,
     ⟨(some 3), none, .alloc [.int .i64 0, .int .i64 0, .slice 0 [] .nil, .nilm, .nilm], []⟩,
     ⟨none, none, .store 5 (.tmp 3) (.tmp 9), []⟩] [1, 2, 3])
   (.seq (.region [⟨(some 4), none, .alloc [.nilf], []⟩] [1, 2, 3, 4])
   (.seq (.region [⟨(some 10), none, .mkfunc 66 [] [(.tmp 3), (.tmp 1), (.tmp 4)], []⟩,
     ⟨none, none, .store 1 (.tmp 4) (.tmp 10), []⟩] [1, 2, 3, 4])
   (.seq (.region [⟨(some 11), none, .load none (.tmp 4), []⟩,
     ⟨(some 12), none, .fieldAddr 2 none (.tmp 1), []⟩,
     ⟨(some 13), none, .load none (.tmp 12), []⟩,
     ⟨(some 14), none, .len (.tmp 13), []⟩,
     ⟨(some 15), none, .bin .shl (.const (.int .i64 1)) (.tmp 14), []⟩,
     ⟨(some 16), none, .bin .sub (.tmp 15) (.const (.int .i64 1)), []⟩,
     ⟨(some 17), none, .call false (.tmp 11) [(.tmp 16)], []⟩] [1, 2, 3, 4])
   (.seq (.seq (.region [⟨(some 18), none, .fieldAddr 2 none (.tmp 1), []⟩,
     ⟨(some 19), none, .load none (.tmp 18), []⟩,
     ⟨(some 20), none, .len (.tmp 19), []⟩,
     ⟨(some 21), none, .bin .shl (.const (.int .i64 1)) (.tmp 20), []⟩,
     ⟨(some 22), none, .move (.const (.int .i64 0)), []⟩] [2, 3, 4, 21, 22])
   (.block 0 (c27_l0)))
   (.seq (.region [⟨(some 29), none, .load (some 5) (.tmp 3), []⟩,
     ⟨none, none, .store 5 (.tmp 2) (.tmp 29), []⟩] [2])
   (.ret))))))),
  [.cell 2 (some 5)]⟩
def c28_l0 : VCode := .loop [1, 2, 5, 6] (.seq (.seq (.region [⟨(some 10), none, .move (.tmp 6), []⟩,
       ⟨(some 11), none, .bin .gtr (.tmp 10) (.const (.int .i64 0)), []⟩] [1, 2, 5, 6, 11])
     (.cond (.tmp 11) (.skip) (.exit 0)))
     (.seq (.block 1 (.seq (.region [⟨(some 17), none, .load (some 5) (.tmp 2), []⟩,
        ⟨(some 18), none, .move (.tmp 6), []⟩,
        ⟨(some 19), none, .call false (.const (.func 30 [] [])) [(.tmp 17), (.tmp 18)], []⟩,
        ⟨(some 16), none, .move (.tmp 19), []⟩,
        ⟨(some 20), none, .extract (.tmp 16) 0, []⟩,
        ⟨(some 21), none, .extract (.tmp 16) 1, []⟩,
        ⟨(some 7), none, .move (.tmp 20), []⟩,
        ⟨(some 8), none, .move (.tmp 21), []⟩] [1, 2, 5, 6, 7])
      (.seq (.region [⟨(some 22), none, .move (.tmp 7), []⟩,
        ⟨(some 23), none, .fieldAddr 0 (some 3) (.tmp 2), []⟩,
        ⟨(some 24), none, .fieldAddr 0 none (.tmp 23), []⟩,
        ⟨(some 25), none, .load none (.tmp 24), []⟩,
        ⟨(some 26), none, .bin .geq (.tmp 22) (.tmp 25), []⟩,
        ⟨(some 27), none, .move (.tmp 26), []⟩,
        ⟨(some 28), (some (27, true)), .move (.tmp 5), []⟩,
        ⟨(some 29), (some (27, true)), .bin .eql (.tmp 28) (.const (.int .i64 0)), []⟩,
        ⟨(some 30), (some (27, true)), .move (.tmp 29), []⟩,
        ⟨(some 31), (some (30, false)), .move (.tmp 6), []⟩,
        ⟨(some 32), (some (30, false)), .call false (.const (.func 31 [] [])) [(.tmp 31)], []⟩,
        ⟨(some 33), (some (30, false)), .move (.tmp 5), []⟩,
        ⟨(some 34), (some (30, false)), .call false (.const (.func 31 [] [])) [(.tmp 33)], []⟩,
        ⟨(some 35), (some (30, false)), .bin .lss (.tmp 32) (.tmp 34), []⟩,
        ⟨(some 36), (some (27, true)), .pick (.tmp 30) (.const (.bool true)) (.tmp 35), []⟩,
        ⟨(some 37), none, .pick (.tmp 27) (.tmp 36) (.const (.bool false)), []⟩] [1, 2, 5, 6, 37])
      (.cond (.tmp 37) (.region [⟨(some 38), none, .move (.tmp 6), []⟩,
         ⟨(some 5), none, .move (.tmp 38), []⟩] [1, 2, 5, 6]) (.skip)))))
     (.region [⟨(some 12), none, .move (.tmp 6), []⟩,
       ⟨(some 13), none, .bin .sub (.tmp 12) (.const (.int .i64 1)), []⟩,
       ⟨(some 14), none, .move (.tmp 1), []⟩,
       ⟨(some 15), none, .bin .and (.tmp 13) (.tmp 14), []⟩,
       ⟨(some 6), none, .move (.tmp 15), []⟩] [1, 2, 5, 6])))
/-- (remontoir/spare.store).fewest -/
def c28 : VFunc :=
  ⟨40, .seq (.region [⟨(some 2), none, .box (.tmp 0), []⟩,
     ⟨(some 4), none, .move (.const (.int .i64 0)), []⟩] [1, 2])
   (.seq (.region [⟨(some 5), none, .move (.const (.int .i64 0)), []⟩] [1, 2, 5])
   (.seq (.seq (.region [⟨(some 9), none, .move (.tmp 1), []⟩,
     ⟨(some 6), none, .move (.tmp 9), []⟩] [1, 2, 5, 6])
   (.block 0 (c28_l0)))
   (.seq (.region [⟨(some 39), none, .move (.tmp 5), []⟩,
     ⟨(some 4), none, .move (.tmp 39), []⟩] [4])
   (.ret)))),
  [.tmp 4]⟩
/-- remontoir/spare.all -/
def c29 : VFunc :=
  ⟨8, .seq (.region [⟨(some 1), none, .box (.tmp 0), []⟩,
     ⟨(some 2), none, .move (.const (.int .i64 0)), []⟩] [1])
   (.seq (.region [⟨(some 3), none, .fieldAddr 2 none (.tmp 1), []⟩,
     ⟨(some 4), none, .load none (.tmp 3), []⟩,
     ⟨(some 5), none, .len (.tmp 4), []⟩,
     ⟨(some 6), none, .bin .shl (.const (.int .i64 1)) (.tmp 5), []⟩,
     ⟨(some 7), none, .bin .sub (.tmp 6) (.const (.int .i64 1)), []⟩,
     ⟨(some 2), none, .move (.tmp 7), []⟩] [2])
   (.ret)),
  [.tmp 2]⟩
def c30_a0 : VCode := .region [⟨(some 10), none, .move (.tmp 42), []⟩] [4, 5, 6, 10]
def c30_b0 : VCode := .block 3 (.seq (.region [⟨(some 43), none, .move (.tmp 10), []⟩,
            ⟨(some 44), none, .load none (.tmp 4), []⟩,
            ⟨(some 45), none, .bin .gtr (.tmp 43) (.tmp 44), []⟩] [4, 5, 6, 10, 45])
          (.cond (.tmp 45) (.region [⟨(some 46), none, .move (.tmp 10), []⟩,
             ⟨(some 47), none, .load none (.tmp 6), []⟩,
             ⟨none, none, .store 1 (.tmp 4) (.tmp 46), [1]⟩,
             ⟨none, none, .store 1 (.tmp 5) (.tmp 47), []⟩] []) (.skip)))
def c30_l0 : VCode := .loop [1, 2, 4, 5, 14, 15] (.seq (.region [⟨(some 16), none, .bin .lss (.tmp 15) (.tmp 14), []⟩] [1, 2, 4, 5, 14, 15, 16])
     (.seq (.cond (.tmp 16) (.skip) (.exit 0))
     (.seq (.block 1 (.seq (.region [⟨(some 17), none, .move (.tmp 15), []⟩,
        ⟨(some 6), none, .alloc [.int .i64 0], []⟩,
        ⟨none, none, .store 1 (.tmp 6) (.tmp 17), []⟩] [1, 2, 4, 5, 6, 14, 15])
      (.seq (.seq (.region [⟨(some 18), none, .move (.tmp 1), []⟩,
        ⟨(some 19), none, .load none (.tmp 6), []⟩,
        ⟨(some 20), none, .bin .shr (.tmp 18) (.tmp 19), []⟩,
        ⟨(some 21), none, .bin .and (.tmp 20) (.const (.int .i64 1)), []⟩,
        ⟨(some 22), none, .bin .eql (.tmp 21) (.const (.int .i64 0)), []⟩] [1, 2, 4, 5, 6, 14, 15, 22])
      (.cond (.tmp 22) (.exit 1) (.skip)))
      (.seq (.region [⟨(some 23), none, .move (.tmp 1), []⟩,
        ⟨(some 24), none, .load none (.tmp 6), []⟩,
        ⟨(some 25), none, .bin .shl (.const (.int .i64 1)) (.tmp 24), []⟩,
        ⟨(some 26), none, .bin .andNot (.tmp 23) (.tmp 25), []⟩,
        ⟨(some 7), none, .move (.tmp 26), []⟩] [1, 2, 4, 5, 6, 7, 14, 15])
      (.seq (.region [⟨(some 27), none, .fieldAddr 3 none (.tmp 2), []⟩,
        ⟨(some 28), none, .load none (.tmp 27), []⟩,
        ⟨(some 29), none, .move (.tmp 7), []⟩,
        ⟨(some 30), none, .move (.tmp 7), []⟩,
        ⟨(some 31), none, .call false (.const (.func 31 [] [])) [(.tmp 30)], [1]⟩,
        ⟨(some 32), none, .build [.int .i64 0, .int .i64 0] [(0, 1, (.tmp 29)), (1, 1, (.tmp 31))], []⟩,
        ⟨(some 33), none, .lookup true [some .i64, some .i64] (.int .i64 0) false (.tmp 28) (.tmp 32), []⟩,
        ⟨(some 8), none, .move (.tmp 33), []⟩] [1, 2, 4, 5, 6, 8, 14, 15])
      (.seq (.seq (.region [⟨(some 34), none, .move (.tmp 8), []⟩,
        ⟨(some 35), none, .bin .lss (.tmp 34) (.const (.int .i64 0)), []⟩] [1, 2, 4, 5, 6, 8, 14, 15, 35])
      (.cond (.tmp 35) (.exit 1) (.skip)))
      (.seq (.region [⟨(some 36), none, .load (some 5) (.tmp 2), []⟩,
        ⟨(some 37), none, .load none (.tmp 6), []⟩,
        ⟨(some 38), none, .bin .shl (.const (.int .i64 1)) (.tmp 37), []⟩,
        ⟨(some 39), none, .move (.tmp 8), []⟩,
        ⟨(some 40), none, .call false (.const (.func 67 [] [])) [(.tmp 36), (.tmp 38), (.tmp 39), (.const (.int .i64 1))], []⟩] [1, 2, 4, 5, 6, 14, 15, 40])
      (.block 2 (.rangeFunc (.tmp 40) [41, 42] c30_a0
        c30_b0 [4, 5, 6])))))))))
     (.region [⟨(some 48), none, .bin .add (.tmp 15) (.const (.int .i64 1)), []⟩,
       ⟨(some 15), none, .move (.tmp 48), []⟩] [1, 2, 4, 5, 14, 15]))))
/-- (remontoir/spare.store).ends -/
def c30 : VFunc :=
  ⟨51, .seq (.region [⟨(some 2), none, .box (.tmp 0), []⟩,
     ⟨(some 4), none, .alloc [.int .i64 0], []⟩,
     ⟨(some 5), none, .alloc [.int .i64 0], []⟩] [1, 2, 4, 5])
   (.seq (.seq (.region [⟨(some 11), none, .fieldAddr 0 (some 3) (.tmp 2), []⟩,
     ⟨(some 12), none, .fieldAddr 2 none (.tmp 11), []⟩,
     ⟨(some 13), none, .load none (.tmp 12), []⟩,
     ⟨(some 14), none, .len (.tmp 13), []⟩,
     ⟨(some 15), none, .move (.const (.int .i64 0)), []⟩] [1, 2, 4, 5, 14, 15])
   (.block 0 (c30_l0)))
   (.seq (.region [⟨(some 49), none, .load none (.tmp 4), []⟩,
     ⟨(some 50), none, .load none (.tmp 5), []⟩,
     ⟨none, none, .store 1 (.tmp 4) (.tmp 49), [1]⟩,
     ⟨none, none, .store 1 (.tmp 5) (.tmp 50), []⟩] [4, 5])
   (.ret))),
  [.cell 4 none, .cell 5 none]⟩
def c31_l0 : VCode := .loop [0, 3] (.seq (.seq (.region [⟨(some 4), none, .move (.tmp 0), []⟩,
       ⟨(some 5), none, .bin .gtr (.tmp 4) (.const (.int .i64 0)), []⟩] [0, 3, 5])
     (.cond (.tmp 5) (.skip) (.exit 0)))
     (.seq (.block 1 (.region [⟨(some 10), none, .move (.tmp 3), []⟩,
        ⟨(some 11), none, .bin .add (.tmp 10) (.const (.int .i64 1)), []⟩,
        ⟨(some 3), none, .move (.tmp 11), []⟩] [0, 3]))
     (.region [⟨(some 6), none, .move (.tmp 0), []⟩,
       ⟨(some 7), none, .move (.tmp 0), []⟩,
       ⟨(some 8), none, .bin .sub (.tmp 7) (.const (.int .i64 1)), []⟩,
       ⟨(some 9), none, .bin .and (.tmp 6) (.tmp 8), []⟩,
       ⟨(some 0), none, .move (.tmp 9), []⟩] [0, 3])))
/-- remontoir/spare.count -/
def c31 : VFunc :=
  ⟨13, .seq (.region [⟨(some 2), none, .move (.const (.int .i64 0)), []⟩] [0])
   (.seq (.region [⟨(some 3), none, .move (.const (.int .i64 0)), []⟩] [0, 3])
   (.seq (.block 0 (c31_l0))
   (.seq (.region [⟨(some 12), none, .move (.tmp 3), []⟩,
     ⟨(some 2), none, .move (.tmp 12), []⟩] [2])
   (.ret)))),
  [.tmp 2]⟩
/-- remontoir/spare.of -/
def c32 : VFunc :=
  ⟨13, .seq (.region [⟨(some 2), none, .box (.tmp 0), []⟩,
     ⟨(some 4), none, .alloc [.int .i64 0, .int .i64 0, .int .i64 0, .int .i64 0, .int .i64 0, .int .i64 0], []⟩] [1, 2, 4])
   (.seq (.region [⟨(some 5), none, .fieldAddr 2 none (.tmp 2), []⟩,
     ⟨(some 6), none, .load none (.tmp 5), []⟩,
     ⟨(some 7), none, .move (.tmp 1), []⟩,
     ⟨(some 8), none, .idxAddr none 5 true (.tmp 6) (.tmp 7), []⟩,
     ⟨(some 9), none, .load (some 5) (.tmp 8), []⟩,
     ⟨(some 10), none, .fieldAddr 1 none (.tmp 2), []⟩,
     ⟨(some 11), none, .load none (.tmp 10), []⟩,
     ⟨(some 12), none, .build [.int .i64 0, .int .i64 0, .int .i64 0, .int .i64 0, .int .i64 0, .int .i64 0] [(0, 5, (.tmp 9)), (5, 1, (.tmp 11))], []⟩,
     ⟨none, none, .store 6 (.tmp 4) (.tmp 12), []⟩] [4])
   (.ret)),
  [.cell 4 (some 6)]⟩
/-- (remontoir/spare.machine).stint -/
def c33 : VFunc :=
  ⟨19, .seq (.region [⟨(some 1), none, .box (.tmp 0), []⟩,
     ⟨(some 2), none, .move (.const (.int .i64 0)), []⟩] [1])
   (.seq (.seq (.region [⟨(some 3), none, .fieldAddr 0 (some 5) (.tmp 1), []⟩,
     ⟨(some 4), none, .fieldAddr 4 none (.tmp 3), []⟩,
     ⟨(some 5), none, .load none (.tmp 4), []⟩,
     ⟨(some 6), none, .bin .eql (.tmp 5) (.const (.int .i64 0)), []⟩] [1, 6])
   (.cond (.tmp 6) (.seq (.region [⟨(some 7), none, .load (some 6) (.tmp 1), []⟩,
      ⟨(some 8), none, .call false (.const (.func 68 [] [])) [(.tmp 7)], []⟩,
      ⟨(some 2), none, .move (.tmp 8), []⟩] [2])
    (.ret)) (.skip)))
   (.seq (.region [⟨(some 9), none, .load (some 6) (.tmp 1), []⟩,
     ⟨(some 10), none, .call true (.const (.func 68 [] [])) [(.tmp 9)], []⟩,
     ⟨(some 11), none, .fieldAddr 5 none (.tmp 1), []⟩,
     ⟨(some 12), none, .load none (.tmp 11), []⟩,
     ⟨(some 13), none, .fieldAddr 0 (some 5) (.tmp 1), []⟩,
     ⟨(some 14), none, .fieldAddr 4 none (.tmp 13), []⟩,
     ⟨(some 15), none, .load none (.tmp 14), []⟩,
     ⟨(some 16), none, .bin .quo (.tmp 12) (.tmp 15), []⟩,
     ⟨(some 17), none, .mkslice 1 [(.tmp 16)], []⟩,
     ⟨(some 18), none, .call false (.const (.func 69 [] [])) [(.tmp 10), (.tmp 17)], []⟩,
     ⟨(some 2), none, .move (.tmp 18), []⟩] [2])
   (.ret))),
  [.tmp 2]⟩
/-- remontoir/spare.lies -/
def c34 : VFunc :=
  ⟨15, .seq (.region [⟨(some 6), none, .move (.const (.bool false)), []⟩] [0, 1, 2])
   (.seq (.region [⟨(some 7), none, .move (.tmp 1), []⟩,
     ⟨(some 8), none, .move (.tmp 0), []⟩,
     ⟨(some 9), none, .bin .leq (.tmp 7) (.tmp 8), []⟩,
     ⟨(some 10), none, .move (.tmp 9), []⟩,
     ⟨(some 11), (some (10, true)), .move (.tmp 0), []⟩,
     ⟨(some 12), (some (10, true)), .move (.tmp 2), []⟩,
     ⟨(some 13), (some (10, true)), .bin .leq (.tmp 11) (.tmp 12), []⟩,
     ⟨(some 14), none, .pick (.tmp 10) (.tmp 13) (.const (.bool false)), []⟩,
     ⟨(some 6), none, .move (.tmp 14), []⟩] [6])
   (.ret)),
  [.tmp 6]⟩
/-- remontoir/caller.Fewest -/
def c35 : VFunc :=
  ⟨18, .seq (.region [⟨(some 1), none, .box (.tmp 0), []⟩,
     ⟨(some 2), none, .move (.const (.int .i64 0)), []⟩,
     ⟨(some 3), none, .move (.const (.int .i64 0)), []⟩] [1])
   (.seq (.seq (.region [⟨(some 7), none, .load (some 6) (.tmp 1), []⟩,
     ⟨(some 8), none, .call false (.const (.func 23 [] [])) [(.tmp 7)], []⟩,
     ⟨(some 4), none, .move (.tmp 8), []⟩] [1, 4])
   (.seq (.region [⟨(some 9), none, .move (.tmp 4), []⟩,
     ⟨(some 10), none, .bin .neq (.tmp 9) (.const (.int .i64 0)), []⟩] [1, 4, 10])
   (.cond (.tmp 10) (.seq (.region [⟨(some 11), none, .move (.tmp 4), []⟩,
      ⟨(some 2), none, .move (.const (.int .i64 0)), []⟩,
      ⟨(some 3), none, .move (.tmp 11), []⟩] [2, 3])
    (.ret)) (.skip))))
   (.seq (.region [⟨(some 12), none, .load (some 6) (.tmp 1), []⟩,
     ⟨(some 13), none, .build [.int .i64 0, .int .i64 0, .int .i64 0, .int .i64 0, .slice 0 [] .nil, .slice 0 [] .nil] [(0, 6, (.tmp 12))], []⟩,
     ⟨(some 14), none, .mkfunc 70 [(.tmp 13)] [], []⟩,
     ⟨(some 5), none, .alloc [.nilf], []⟩,
     ⟨none, none, .store 1 (.tmp 5) (.tmp 14), []⟩] [5])
   (.seq (.region [⟨(some 6), none, .alloc [.nilf], []⟩] [5, 6])
   (.seq (.region [⟨(some 15), none, .mkfunc 71 [] [(.tmp 5), (.tmp 6)], []⟩,
     ⟨none, none, .store 1 (.tmp 6) (.tmp 15), []⟩] [6])
   (.seq (.region [⟨(some 16), none, .load none (.tmp 6), []⟩,
     ⟨(some 17), none, .call false (.tmp 16) [(.const (.int .i64 1))], []⟩,
     ⟨(some 2), none, .move (.tmp 17), []⟩,
     ⟨(some 3), none, .move (.const (.int .i64 0)), []⟩] [2, 3])
   (.ret)))))),
  [.tmp 2, .tmp 3]⟩
def c36_l0 : VCode := .loop [5, 6, 20, 21] (.seq (.region [⟨(some 22), none, .bin .lss (.tmp 21) (.tmp 20), []⟩] [5, 6, 20, 21, 22])
     (.seq (.cond (.tmp 22) (.skip) (.exit 0))
     (.seq (.block 1 (.seq (.region [⟨(some 23), none, .move (.tmp 21), []⟩,
        ⟨(some 7), none, .move (.tmp 23), []⟩] [5, 6, 7, 20, 21])
      (.seq (.region [⟨(some 25), none, .load (some 5) (.tmp 5), []⟩,
        ⟨(some 26), none, .move (.tmp 7), []⟩,
        ⟨(some 27), none, .call false (.const (.func 30 [] [])) [(.tmp 25), (.tmp 26)], []⟩,
        ⟨(some 24), none, .move (.tmp 27), []⟩,
        ⟨(some 28), none, .extract (.tmp 24) 0, []⟩,
        ⟨(some 29), none, .extract (.tmp 24) 1, []⟩,
        ⟨(some 8), none, .move (.tmp 28), []⟩,
        ⟨(some 9), none, .move (.tmp 29), []⟩] [5, 6, 8, 20, 21])
      (.region [⟨(some 30), none, .move (.tmp 6), []⟩,
        ⟨(some 31), none, .move (.tmp 8), []⟩,
        ⟨(some 32), none, .max [(.tmp 30), (.tmp 31)], []⟩,
        ⟨(some 6), none, .move (.tmp 32), []⟩] [5, 6, 20, 21]))))
     (.region [⟨(some 33), none, .bin .add (.tmp 21) (.const (.int .i64 1)), []⟩,
       ⟨(some 21), none, .move (.tmp 33), []⟩] [5, 6, 20, 21]))))
/-- remontoir/spare.Reach -/
def c36 : VFunc :=
  ⟨35, .seq (.region [⟨(some 1), none, .box (.tmp 0), []⟩,
     ⟨(some 2), none, .move (.const (.int .i64 0)), []⟩,
     ⟨(some 3), none, .move (.const (.int .i64 0)), []⟩] [1])
   (.seq (.seq (.region [⟨(some 10), none, .load (some 3) (.tmp 1), []⟩,
     ⟨(some 11), none, .call false (.const (.func 7 [] [])) [(.tmp 10)], []⟩,
     ⟨(some 4), none, .move (.tmp 11), []⟩] [1, 4])
   (.seq (.region [⟨(some 12), none, .move (.tmp 4), []⟩,
     ⟨(some 13), none, .bin .neq (.tmp 12) (.const (.int .i64 0)), []⟩] [1, 4, 13])
   (.cond (.tmp 13) (.seq (.region [⟨(some 14), none, .move (.tmp 4), []⟩,
      ⟨(some 2), none, .move (.const (.int .i64 0)), []⟩,
      ⟨(some 3), none, .move (.tmp 14), []⟩] [2, 3])
    (.ret)) (.skip))))
   (.seq (.region [⟨(some 15), none, .load (some 3) (.tmp 1), []⟩,
     ⟨(some 16), none, .call false (.const (.func 27 [] [])) [(.tmp 15)], []⟩,
     ⟨(some 5), none, .alloc [.int .i64 0, .int .i64 0, .slice 0 [] .nil, .nilm, .nilm], []⟩,
     ⟨none, none, .store 5 (.tmp 5) (.tmp 16), []⟩,
     ⟨(some 6), none, .move (.const (.int .i64 0)), []⟩] [1, 5, 6])
   (.seq (.seq (.region [⟨(some 17), none, .fieldAddr 2 none (.tmp 1), []⟩,
     ⟨(some 18), none, .load none (.tmp 17), []⟩,
     ⟨(some 19), none, .len (.tmp 18), []⟩,
     ⟨(some 20), none, .bin .shl (.const (.int .i64 1)) (.tmp 19), []⟩,
     ⟨(some 21), none, .move (.const (.int .i64 0)), []⟩] [5, 6, 20, 21])
   (.block 0 (c36_l0)))
   (.seq (.region [⟨(some 34), none, .move (.tmp 6), []⟩,
     ⟨(some 2), none, .move (.tmp 34), []⟩,
     ⟨(some 3), none, .move (.const (.int .i64 0)), []⟩] [2, 3])
   (.ret))))),
  [.tmp 2, .tmp 3]⟩
/-- remontoir/beat.Offset -/
def c37 : VFunc :=
  ⟨29, .seq (.region [⟨(some 3), none, .box (.tmp 0), []⟩,
     ⟨(some 6), none, .alloc [.int .i64 0, .int .i64 0], []⟩,
     ⟨(some 7), none, .move (.const (.int .i64 0)), []⟩] [1, 2, 3, 6])
   (.seq (.region [⟨(some 11), none, .load (some 4) (.tmp 3), []⟩,
     ⟨(some 12), none, .load (some 4) (.tmp 3), []⟩,
     ⟨(some 13), none, .move (.tmp 1), []⟩,
     ⟨(some 14), none, .move (.tmp 2), []⟩,
     ⟨(some 15), none, .call false (.const (.func 42 [] [])) [(.tmp 12), (.tmp 13), (.tmp 14)], [0]⟩,
     ⟨(some 16), none, .call false (.const (.func 41 [] [])) [(.tmp 11), (.tmp 15)], []⟩,
     ⟨(some 10), none, .move (.tmp 16), []⟩,
     ⟨(some 17), none, .extract (.tmp 10) 0, []⟩,
     ⟨(some 18), none, .extract (.tmp 10) 1, []⟩,
     ⟨(some 8), none, .alloc [.int .i64 0, .slice 0 [] .nil, .slice 0 [] .nil, .slice 0 [] .nil, .int .i64 0, .nilm], [0, 1]⟩,
     ⟨none, none, .store 6 (.tmp 8) (.tmp 17), []⟩,
     ⟨(some 9), none, .move (.tmp 18), []⟩] [1, 2, 6, 8, 9])
   (.seq (.seq (.region [⟨(some 19), none, .move (.tmp 9), []⟩,
     ⟨(some 20), none, .bin .neq (.tmp 19) (.const (.int .i64 0)), []⟩] [1, 2, 6, 8, 9, 20])
   (.cond (.tmp 20) (.seq (.region [⟨(some 21), none, .build [.int .i64 0, .int .i64 0] [], []⟩,
      ⟨(some 22), none, .move (.tmp 9), []⟩,
      ⟨none, none, .store 2 (.tmp 6) (.tmp 21), []⟩,
      ⟨(some 7), none, .move (.tmp 22), []⟩] [6, 7])
    (.ret)) (.skip)))
   (.seq (.region [⟨(some 23), none, .load (some 6) (.tmp 8), []⟩,
     ⟨(some 24), none, .move (.tmp 1), []⟩,
     ⟨(some 25), none, .move (.tmp 2), []⟩,
     ⟨(some 26), none, .build [.int .i64 0, .int .i64 0] [(0, 1, (.tmp 24)), (1, 1, (.tmp 25))], []⟩,
     ⟨(some 27), none, .call false (.const (.func 72 [] [])) [], [0]⟩,
     ⟨(some 28), none, .call false (.const (.func 43 [] [])) [(.tmp 23), (.tmp 26), (.tmp 27)], []⟩,
     ⟨none, none, .store 2 (.tmp 6) (.tmp 28), []⟩,
     ⟨(some 7), none, .move (.const (.int .i64 0)), []⟩] [6, 7])
   (.ret)))),
  [.cell 6 (some 2), .tmp 7]⟩
/-- remontoir/voice.Fewest -/
def c38 : VFunc :=
  ⟨33, .seq (.region [⟨(some 2), none, .box (.tmp 0), []⟩,
     ⟨(some 4), none, .move (.const (.slice 0 [] .nil)), []⟩,
     ⟨(some 5), none, .move (.const (.int .i64 0)), []⟩] [1, 2])
   (.seq (.block 0 (.seq (.region [⟨(some 9), none, .load (some 6) (.tmp 2), []⟩,
      ⟨(some 10), none, .call false (.const (.func 16 [] [])) [(.tmp 9)], []⟩,
      ⟨(some 11), none, .bin .neq (.tmp 10) (.const (.int .i64 0)), []⟩,
      ⟨(some 8), none, .move (.tmp 11), []⟩] [1, 2, 8])
    (.cond (.tmp 8) (.seq (.region [⟨(some 4), none, .move (.const (.slice 0 [] .nil)), []⟩,
       ⟨(some 5), none, .move (.const (.int .i64 50)), []⟩] [4, 5])
     (.ret)) (.seq (.region [⟨(some 13), none, .move (.tmp 1), []⟩,
       ⟨(some 14), none, .call false (.const (.func 48 [] [])) [(.tmp 13), (.const (.int .i64 8))], []⟩,
       ⟨(some 15), none, .not (.tmp 14), []⟩,
       ⟨(some 12), none, .move (.tmp 15), []⟩] [1, 2, 12])
     (.cond (.tmp 12) (.seq (.region [⟨(some 4), none, .move (.const (.slice 0 [] .nil)), []⟩,
        ⟨(some 5), none, .move (.const (.int .i64 51)), []⟩] [4, 5])
      (.ret)) (.skip))))))
   (.seq (.region [⟨(some 17), none, .load (some 6) (.tmp 2), []⟩,
     ⟨(some 18), none, .load (some 6) (.tmp 2), []⟩,
     ⟨(some 19), none, .call false (.const (.func 64 [] [])) [(.tmp 18)], [0]⟩,
     ⟨(some 20), none, .call false (.const (.func 63 [] [])) [(.tmp 17), (.tmp 19)], []⟩,
     ⟨(some 21), none, .move (.tmp 1), []⟩,
     ⟨(some 22), none, .call false (.const (.func 73 [] [])) [(.tmp 20), (.tmp 21)], []⟩,
     ⟨(some 16), none, .move (.tmp 22), []⟩,
     ⟨(some 23), none, .extract (.tmp 16) 0, []⟩,
     ⟨(some 24), none, .extract (.tmp 16) 1, []⟩,
     ⟨(some 6), none, .move (.tmp 23), []⟩,
     ⟨(some 7), none, .move (.tmp 24), []⟩] [6, 7])
   (.seq (.seq (.region [⟨(some 25), none, .move (.tmp 7), []⟩,
     ⟨(some 26), none, .not (.tmp 25), []⟩] [6, 26])
   (.cond (.tmp 26) (.seq (.region [⟨(some 4), none, .move (.const (.slice 0 [] .nil)), []⟩,
      ⟨(some 5), none, .move (.const (.int .i64 4)), []⟩] [4, 5])
    (.ret)) (.skip)))
   (.seq (.region [⟨(some 27), none, .move (.tmp 6), []⟩,
     ⟨(some 28), none, .move (.tmp 6), []⟩,
     ⟨(some 29), none, .len (.tmp 28), []⟩,
     ⟨(some 30), none, .move (.tmp 6), []⟩,
     ⟨(some 31), none, .len (.tmp 30), []⟩,
     ⟨(some 32), none, .slc 1 (.tmp 27) none (some (.tmp 29)) (some (.tmp 31)), []⟩,
     ⟨(some 4), none, .move (.tmp 32), []⟩,
     ⟨(some 5), none, .move (.const (.int .i64 0)), []⟩] [4, 5])
   (.ret))))),
  [.tmp 4, .tmp 5]⟩
/-- remontoir/remontoirref00.Alike -/
def c39 : VFunc :=
  ⟨18, .seq (.region [⟨(some 4), none, .move (.const (.bool false)), []⟩] [0, 1])
   (.seq (.region [⟨(some 5), none, .move (.tmp 0), []⟩,
     ⟨(some 6), none, .len (.tmp 5), []⟩,
     ⟨(some 7), none, .move (.tmp 1), []⟩,
     ⟨(some 8), none, .len (.tmp 7), []⟩,
     ⟨(some 9), none, .bin .eql (.tmp 6) (.tmp 8), []⟩,
     ⟨(some 10), none, .move (.tmp 9), []⟩,
     ⟨(some 11), (some (10, true)), .move (.tmp 0), []⟩,
     ⟨(some 12), (some (10, true)), .move (.tmp 1), []⟩,
     ⟨(some 13), (some (10, true)), .call false (.const (.func 74 [] [])) [(.tmp 11), (.tmp 12)], []⟩,
     ⟨(some 14), (some (10, true)), .move (.tmp 0), []⟩,
     ⟨(some 15), (some (10, true)), .len (.tmp 14), []⟩,
     ⟨(some 16), (some (10, true)), .bin .eql (.tmp 13) (.tmp 15), []⟩,
     ⟨(some 17), none, .pick (.tmp 10) (.tmp 16) (.const (.bool false)), []⟩,
     ⟨(some 4), none, .move (.tmp 17), []⟩] [4])
   (.ret)),
  [.tmp 4]⟩
def c40_l0 : VCode := .loop [1, 2, 3, 7, 12, 13, 14] (.seq (.region [⟨(some 15), none, .bin .lss (.tmp 14) (.tmp 13), []⟩] [1, 2, 3, 7, 12, 13, 14, 15])
     (.seq (.cond (.tmp 15) (.skip) (.exit 0))
     (.seq (.block 1 (.seq (.region [⟨(some 16), none, .move (.tmp 14), []⟩,
        ⟨(some 17), none, .idxAddr none 3 true (.tmp 12) (.tmp 14), []⟩,
        ⟨(some 18), none, .load (some 3) (.tmp 17), []⟩,
        ⟨(some 9), none, .alloc [.int .i64 0, .int .i64 0, .int .i64 0], []⟩,
        ⟨(some 8), none, .move (.tmp 16), []⟩,
        ⟨none, none, .store 3 (.tmp 9) (.tmp 18), []⟩] [1, 2, 3, 7, 8, 9, 12, 13, 14])
      (.seq (.seq (.region [⟨(some 19), none, .fieldAddr 0 none (.tmp 9), []⟩,
        ⟨(some 20), none, .load none (.tmp 19), []⟩,
        ⟨(some 21), none, .fieldAddr 2 none (.tmp 3), []⟩,
        ⟨(some 22), none, .load none (.tmp 21), []⟩,
        ⟨(some 23), none, .len (.tmp 22), []⟩,
        ⟨(some 24), none, .bin .sub (.tmp 23) (.const (.int .i64 1)), []⟩,
        ⟨(some 25), none, .call false (.const (.func 34 [] [])) [(.tmp 20), (.const (.int .i64 0)), (.tmp 24)], []⟩,
        ⟨(some 26), none, .not (.tmp 25), []⟩,
        ⟨(some 27), none, .move (.tmp 26), []⟩,
        ⟨(some 28), (some (27, false)), .fieldAddr 0 none (.tmp 9), []⟩,
        ⟨(some 29), (some (27, false)), .load none (.tmp 28), []⟩,
        ⟨(some 30), (some (27, false)), .idxAddr (some 8) 1 false (.tmp 7) (.tmp 29), []⟩,
        ⟨(some 31), (some (27, false)), .load none (.tmp 30), []⟩,
        ⟨(some 32), none, .pick (.tmp 27) (.const (.bool true)) (.tmp 31), []⟩] [1, 2, 3, 7, 8, 9, 12, 13, 14, 32])
      (.cond (.tmp 32) (.seq (.region [⟨(some 6), none, .move (.const (.bool false)), []⟩] [6])
       (.ret)) (.skip)))
      (.seq (.region [⟨(some 33), none, .fieldAddr 0 none (.tmp 9), []⟩,
        ⟨(some 34), none, .load none (.tmp 33), []⟩,
        ⟨(some 35), none, .idxAddr (some 8) 1 false (.tmp 7) (.tmp 34), []⟩,
        ⟨none, none, .store 1 (.tmp 35) (.const (.bool true)), []⟩] [1, 2, 3, 7, 8, 9, 12, 13, 14])
      (.seq (.region [⟨(some 36), none, .fieldAddr 2 none (.tmp 3), []⟩,
        ⟨(some 37), none, .load none (.tmp 36), []⟩,
        ⟨(some 38), none, .fieldAddr 0 none (.tmp 9), []⟩,
        ⟨(some 39), none, .load none (.tmp 38), []⟩,
        ⟨(some 40), none, .idxAddr none 5 true (.tmp 37) (.tmp 39), []⟩,
        ⟨(some 41), none, .load (some 5) (.tmp 40), []⟩,
        ⟨(some 42), none, .move (.tmp 2), []⟩,
        ⟨(some 10), none, .alloc [.int .i64 0, .int .i64 0, .int .i64 0, .int .i64 0, .int .i64 0], []⟩,
        ⟨none, none, .store 5 (.tmp 10) (.tmp 41), []⟩,
        ⟨(some 11), none, .move (.tmp 42), []⟩] [1, 2, 3, 7, 8, 9, 10, 11, 12, 13, 14])
      (.seq (.seq (.region [⟨(some 43), none, .move (.tmp 8), []⟩,
        ⟨(some 44), none, .bin .add (.tmp 43) (.const (.int .i64 1)), []⟩,
        ⟨(some 45), none, .move (.tmp 1), []⟩,
        ⟨(some 46), none, .len (.tmp 45), []⟩,
        ⟨(some 47), none, .bin .lss (.tmp 44) (.tmp 46), []⟩] [1, 2, 3, 7, 8, 9, 10, 11, 12, 13, 14, 47])
      (.cond (.tmp 47) (.region [⟨(some 48), none, .move (.tmp 1), []⟩,
         ⟨(some 49), none, .move (.tmp 8), []⟩,
         ⟨(some 50), none, .bin .add (.tmp 49) (.const (.int .i64 1)), []⟩,
         ⟨(some 51), none, .idxAddr none 3 true (.tmp 48) (.tmp 50), []⟩,
         ⟨(some 52), none, .fieldAddr 2 none (.tmp 51), []⟩,
         ⟨(some 53), none, .load none (.tmp 52), []⟩,
         ⟨(some 11), none, .move (.tmp 53), []⟩] [1, 2, 3, 7, 8, 9, 10, 11, 12, 13, 14]) (.skip)))
      (.seq (.seq (.region [⟨(some 54), none, .move (.tmp 8), []⟩,
        ⟨(some 55), none, .bin .eql (.tmp 54) (.const (.int .i64 0)), []⟩,
        ⟨(some 56), none, .move (.tmp 55), []⟩,
        ⟨(some 57), (some (56, true)), .fieldAddr 2 none (.tmp 9), []⟩,
        ⟨(some 58), (some (56, true)), .load none (.tmp 57), []⟩,
        ⟨(some 59), (some (56, true)), .bin .neq (.tmp 58) (.const (.int .i64 0)), []⟩,
        ⟨(some 60), none, .pick (.tmp 56) (.tmp 59) (.const (.bool false)), []⟩,
        ⟨(some 61), none, .move (.tmp 60), []⟩,
        ⟨(some 62), (some (61, false)), .fieldAddr 1 none (.tmp 9), []⟩,
        ⟨(some 63), (some (61, false)), .load none (.tmp 62), []⟩,
        ⟨(some 64), (some (61, false)), .fieldAddr 0 none (.tmp 10), []⟩,
        ⟨(some 65), (some (61, false)), .load none (.tmp 64), []⟩,
        ⟨(some 66), (some (61, false)), .bin .lss (.tmp 63) (.tmp 65), []⟩,
        ⟨(some 67), none, .pick (.tmp 61) (.const (.bool true)) (.tmp 66), []⟩,
        ⟨(some 68), none, .move (.tmp 67), []⟩,
        ⟨(some 69), (some (68, false)), .fieldAddr 2 none (.tmp 9), []⟩,
        ⟨(some 70), (some (68, false)), .load none (.tmp 69), []⟩,
        ⟨(some 71), (some (68, false)), .fieldAddr 1 none (.tmp 9), []⟩,
        ⟨(some 72), (some (68, false)), .load none (.tmp 71), []⟩,
        ⟨(some 73), (some (68, false)), .bin .sub (.tmp 70) (.tmp 72), []⟩,
        ⟨(some 74), (some (68, false)), .fieldAddr 1 none (.tmp 10), []⟩,
        ⟨(some 75), (some (68, false)), .load none (.tmp 74), []⟩,
        ⟨(some 76), (some (68, false)), .bin .lss (.tmp 73) (.tmp 75), []⟩,
        ⟨(some 77), none, .pick (.tmp 68) (.const (.bool true)) (.tmp 76), []⟩,
        ⟨(some 78), none, .move (.tmp 77), []⟩,
        ⟨(some 79), (some (78, false)), .move (.tmp 11), []⟩,
        ⟨(some 80), (some (78, false)), .fieldAddr 2 none (.tmp 9), []⟩,
        ⟨(some 81), (some (78, false)), .load none (.tmp 80), []⟩,
        ⟨(some 82), (some (78, false)), .bin .leq (.tmp 79) (.tmp 81), []⟩,
        ⟨(some 83), none, .pick (.tmp 78) (.const (.bool true)) (.tmp 82), []⟩,
        ⟨(some 84), none, .move (.tmp 83), []⟩,
        ⟨(some 85), (some (84, false)), .move (.tmp 11), []⟩,
        ⟨(some 86), (some (84, false)), .fieldAddr 1 none (.tmp 9), []⟩,
        ⟨(some 87), (some (84, false)), .load none (.tmp 86), []⟩,
        ⟨(some 88), (some (84, false)), .bin .sub (.tmp 85) (.tmp 87), []⟩,
        ⟨(some 89), (some (84, false)), .fieldAddr 2 (some 2) (.tmp 10), []⟩,
        ⟨(some 90), (some (84, false)), .fieldAddr 0 none (.tmp 89), []⟩,
        ⟨(some 91), (some (84, false)), .load none (.tmp 90), []⟩,
        ⟨(some 92), (some (84, false)), .bin .gtr (.tmp 88) (.tmp 91), []⟩,
        ⟨(some 93), none, .pick (.tmp 84) (.const (.bool true)) (.tmp 92), []⟩] [1, 2, 3, 7, 8, 9, 12, 13, 14, 93])
      (.cond (.tmp 93) (.seq (.region [⟨(some 6), none, .move (.const (.bool false)), []⟩] [6])
       (.ret)) (.skip)))
      (.seq (.region [⟨(some 94), none, .move (.tmp 8), []⟩,
        ⟨(some 95), none, .bin .gtr (.tmp 94) (.const (.int .i64 0)), []⟩,
        ⟨(some 96), none, .move (.tmp 95), []⟩,
        ⟨(some 97), (some (96, true)), .load (some 3) (.tmp 3), []⟩,
        ⟨(some 98), (some (96, true)), .move (.tmp 1), []⟩,
        ⟨(some 99), (some (96, true)), .move (.tmp 8), []⟩,
        ⟨(some 100), (some (96, true)), .bin .sub (.tmp 99) (.const (.int .i64 1)), []⟩,
        ⟨(some 101), (some (96, true)), .idxAddr none 3 true (.tmp 98) (.tmp 100), []⟩,
        ⟨(some 102), (some (96, true)), .load (some 3) (.tmp 101), []⟩,
        ⟨(some 103), (some (96, true)), .fieldAddr 2 none (.tmp 9), []⟩,
        ⟨(some 104), (some (96, true)), .load none (.tmp 103), []⟩,
        ⟨(some 105), (some (96, true)), .call true (.const (.func 75 [] [])) [(.tmp 97), (.tmp 102), (.tmp 104)], []⟩,
        ⟨(some 106), (some (96, true)), .load (some 3) (.tmp 3), []⟩,
        ⟨(some 107), (some (96, true)), .load (some 3) (.tmp 9), []⟩,
        ⟨(some 108), (some (96, true)), .fieldAddr 2 none (.tmp 9), []⟩,
        ⟨(some 109), (some (96, true)), .load none (.tmp 108), []⟩,
        ⟨(some 110), (some (96, true)), .call true (.const (.func 75 [] [])) [(.tmp 106), (.tmp 107), (.tmp 109)], []⟩,
        ⟨(some 111), (some (96, true)), .bin .add (.tmp 105) (.tmp 110), []⟩,
        ⟨(some 112), (some (96, true)), .fieldAddr 1 none (.tmp 3), []⟩,
        ⟨(some 113), (some (96, true)), .load none (.tmp 112), []⟩,
        ⟨(some 114), (some (96, true)), .bin .gtr (.tmp 111) (.tmp 113), []⟩,
        ⟨(some 115), none, .pick (.tmp 96) (.tmp 114) (.const (.bool false)), []⟩] [1, 2, 3, 7, 12, 13, 14, 115])
      (.cond (.tmp 115) (.seq (.region [⟨(some 6), none, .move (.const (.bool false)), []⟩] [6])
       (.ret)) (.skip))))))))))
     (.region [⟨(some 116), none, .bin .add (.tmp 14) (.const (.int .i64 1)), []⟩,
       ⟨(some 14), none, .move (.tmp 116), []⟩] [1, 2, 3, 7, 12, 13, 14]))))
/-- remontoir/spare.isPlan -/
def c40 : VFunc :=
  ⟨120, .seq (.region [⟨(some 3), none, .box (.tmp 0), []⟩,
     ⟨(some 6), none, .move (.const (.bool false)), []⟩] [1, 2, 3])
   (.seq (.region [⟨(some 7), none, .alloc [.bool false, .bool false, .bool false, .bool false, .bool false, .bool false, .bool false, .bool false], []⟩] [1, 2, 3, 7])
   (.seq (.seq (.region [⟨(some 12), none, .move (.tmp 1), []⟩,
     ⟨(some 13), none, .len (.tmp 12), []⟩,
     ⟨(some 14), none, .move (.const (.int .i64 0)), []⟩] [1, 2, 3, 7, 12, 13, 14])
   (.block 0 (c40_l0)))
   (.seq (.region [⟨(some 117), none, .load (some 8) (.tmp 7), []⟩,
     ⟨(some 118), none, .build [.bool false, .bool false, .bool false, .bool false, .bool false, .bool false, .bool false, .bool false] [], []⟩,
     ⟨(some 119), none, .eql true [none, none, none, none, none, none, none, none] true (.tmp 117) (.tmp 118), []⟩,
     ⟨(some 6), none, .move (.tmp 119), []⟩] [6])
   (.ret)))),
  [.tmp 6]⟩
/-- remontoir/beat.asked -/
def c41 : VFunc :=
  ⟨27, .seq (.region [⟨(some 2), none, .box (.tmp 0), []⟩,
     ⟨(some 4), none, .alloc [.int .i64 0, .slice 0 [] .nil, .slice 0 [] .nil, .slice 0 [] .nil, .int .i64 0, .nilm], []⟩,
     ⟨(some 5), none, .move (.const (.int .i64 0)), []⟩] [1, 2, 4])
   (.seq (.seq (.region [⟨(some 9), none, .load (some 4) (.tmp 2), []⟩,
     ⟨(some 10), none, .call false (.const (.func 76 [] [])) [(.tmp 9)], []⟩,
     ⟨(some 6), none, .move (.tmp 10), []⟩] [1, 2, 4, 6])
   (.seq (.region [⟨(some 11), none, .move (.tmp 6), []⟩,
     ⟨(some 12), none, .bin .neq (.tmp 11) (.const (.int .i64 0)), []⟩] [1, 2, 4, 6, 12])
   (.cond (.tmp 12) (.seq (.region [⟨(some 13), none, .build [.int .i64 0, .slice 0 [] .nil, .slice 0 [] .nil, .slice 0 [] .nil, .int .i64 0, .nilm] [], []⟩,
      ⟨(some 14), none, .move (.tmp 6), []⟩,
      ⟨none, none, .store 6 (.tmp 4) (.tmp 13), []⟩,
      ⟨(some 5), none, .move (.tmp 14), []⟩] [4, 5])
    (.ret)) (.skip))))
   (.seq (.seq (.region [⟨(some 15), none, .move (.tmp 1), []⟩,
     ⟨(some 16), none, .not (.tmp 15), []⟩] [2, 4, 16])
   (.cond (.tmp 16) (.seq (.region [⟨(some 17), none, .build [.int .i64 0, .slice 0 [] .nil, .slice 0 [] .nil, .slice 0 [] .nil, .int .i64 0, .nilm] [], []⟩,
      ⟨none, none, .store 6 (.tmp 4) (.tmp 17), []⟩,
      ⟨(some 5), none, .move (.const (.int .i64 21)), []⟩] [4, 5])
    (.ret)) (.skip)))
   (.seq (.region [⟨(some 18), none, .load (some 4) (.tmp 2), []⟩,
     ⟨(some 19), none, .call false (.const (.func 77 [] [])) [(.tmp 18), (.const (.int .i64 0))], []⟩,
     ⟨(some 7), none, .alloc [.int .i64 0, .slice 0 [] .nil, .slice 0 [] .nil, .slice 0 [] .nil, .int .i64 0, .nilm], []⟩,
     ⟨none, none, .store 6 (.tmp 7) (.tmp 19), []⟩] [4, 7])
   (.seq (.region [⟨(some 20), none, .load (some 6) (.tmp 7), []⟩,
     ⟨(some 21), none, .mkfunc 78 [(.tmp 20)] [], []⟩,
     ⟨(some 8), none, .move (.tmp 21), []⟩] [4, 7, 8])
   (.seq (.seq (.region [⟨(some 22), none, .move (.tmp 8), []⟩,
     ⟨(some 23), none, .call false (.tmp 22) [], []⟩,
     ⟨(some 24), none, .not (.tmp 23), []⟩] [4, 7, 24])
   (.cond (.tmp 24) (.seq (.region [⟨(some 25), none, .build [.int .i64 0, .slice 0 [] .nil, .slice 0 [] .nil, .slice 0 [] .nil, .int .i64 0, .nilm] [], []⟩,
      ⟨none, none, .store 6 (.tmp 4) (.tmp 25), []⟩,
      ⟨(some 5), none, .move (.const (.int .i64 22)), []⟩] [4, 5])
    (.ret)) (.skip)))
   (.seq (.region [⟨(some 26), none, .load (some 6) (.tmp 7), []⟩,
     ⟨none, none, .store 6 (.tmp 4) (.tmp 26), []⟩,
     ⟨(some 5), none, .move (.const (.int .i64 0)), []⟩] [4, 5])
   (.ret))))))),
  [.cell 4 (some 6), .tmp 5]⟩
/-- remontoir/beat.isSpot -/
def c42 : VFunc :=
  ⟨19, .seq (.region [⟨(some 3), none, .box (.tmp 0), []⟩,
     ⟨(some 6), none, .move (.const (.bool false)), []⟩] [1, 2, 3])
   (.seq (.region [⟨(some 7), none, .move (.tmp 1), []⟩,
     ⟨(some 8), none, .fieldAddr 1 none (.tmp 3), []⟩,
     ⟨(some 9), none, .load none (.tmp 8), []⟩,
     ⟨(some 10), none, .len (.tmp 9), []⟩,
     ⟨(some 11), none, .bin .sub (.tmp 10) (.const (.int .i64 1)), []⟩,
     ⟨(some 12), none, .call false (.const (.func 79 [] [])) [(.tmp 7), (.const (.int .i64 0)), (.tmp 11)], []⟩,
     ⟨(some 13), none, .move (.tmp 12), []⟩,
     ⟨(some 14), (some (13, true)), .move (.tmp 2), []⟩,
     ⟨(some 15), (some (13, true)), .fieldAddr 0 none (.tmp 3), []⟩,
     ⟨(some 16), (some (13, true)), .load none (.tmp 15), []⟩,
     ⟨(some 17), (some (13, true)), .call false (.const (.func 79 [] [])) [(.tmp 14), (.const (.int .i64 0)), (.tmp 16)], []⟩,
     ⟨(some 18), none, .pick (.tmp 13) (.tmp 17) (.const (.bool false)), []⟩,
     ⟨(some 6), none, .move (.tmp 18), []⟩] [6])
   (.ret)),
  [.tmp 6]⟩
/-- (remontoir/beat.cellar).between -/
def c43 : VFunc :=
  ⟨37, .seq (.region [⟨(some 3), none, .box (.tmp 0), []⟩,
     ⟨(some 4), none, .box (.tmp 1), []⟩,
     ⟨(some 5), none, .box (.tmp 2), []⟩,
     ⟨(some 6), none, .alloc [.int .i64 0, .int .i64 0], []⟩] [3, 4, 5, 6])
   (.seq (.region [⟨(some 12), none, .load (some 6) (.tmp 3), []⟩,
     ⟨(some 13), none, .load (some 2) (.tmp 5), []⟩,
     ⟨(some 14), none, .call false (.const (.func 80 [] [])) [(.tmp 12), (.tmp 13)], []⟩,
     ⟨(some 11), none, .move (.tmp 14), []⟩,
     ⟨(some 15), none, .extract (.tmp 11) 0, []⟩,
     ⟨(some 16), none, .extract (.tmp 11) 1, []⟩,
     ⟨(some 7), none, .alloc (List.replicate 66 (.int .i64 0)), []⟩,
     ⟨none, none, .store 66 (.tmp 7) (.tmp 15), []⟩,
     ⟨(some 8), none, .move (.tmp 16), []⟩] [3, 4, 5, 6, 7])
   (.seq (.region [⟨(some 18), none, .load (some 6) (.tmp 3), []⟩,
     ⟨(some 19), none, .load (some 2) (.tmp 4), []⟩,
     ⟨(some 20), none, .call false (.const (.func 80 [] [])) [(.tmp 18), (.tmp 19)], []⟩,
     ⟨(some 17), none, .move (.tmp 20), []⟩,
     ⟨(some 21), none, .extract (.tmp 17) 0, []⟩,
     ⟨(some 22), none, .extract (.tmp 17) 1, []⟩,
     ⟨(some 9), none, .alloc (List.replicate 66 (.int .i64 0)), []⟩,
     ⟨none, none, .store 66 (.tmp 9) (.tmp 21), []⟩,
     ⟨(some 10), none, .move (.tmp 22), []⟩] [3, 4, 5, 6, 7, 9])
   (.seq (.region [⟨(some 23), none, .fieldAddr 5 none (.tmp 3), []⟩,
     ⟨(some 24), none, .load none (.tmp 23), []⟩,
     ⟨(some 25), none, .load (some 2) (.tmp 5), []⟩,
     ⟨(some 26), none, .lookup true [some .i64, some .i64] (.int .i64 0) false (.tmp 24) (.tmp 25), []⟩,
     ⟨(some 27), none, .idxAddr (some 66) 1 false (.tmp 9) (.tmp 26), []⟩,
     ⟨(some 28), none, .load none (.tmp 27), []⟩,
     ⟨(some 29), none, .neg (.tmp 28), []⟩,
     ⟨(some 30), none, .fieldAddr 5 none (.tmp 3), []⟩,
     ⟨(some 31), none, .load none (.tmp 30), []⟩,
     ⟨(some 32), none, .load (some 2) (.tmp 4), []⟩,
     ⟨(some 33), none, .lookup true [some .i64, some .i64] (.int .i64 0) false (.tmp 31) (.tmp 32), []⟩,
     ⟨(some 34), none, .idxAddr (some 66) 1 false (.tmp 7) (.tmp 33), []⟩,
     ⟨(some 35), none, .load none (.tmp 34), []⟩,
     ⟨(some 36), none, .build [.int .i64 0, .int .i64 0] [(0, 1, (.tmp 29)), (1, 1, (.tmp 35))], []⟩,
     ⟨none, none, .store 2 (.tmp 6) (.tmp 36), []⟩] [6])
   (.ret)))),
  [.cell 6 (some 2)]⟩
/-- remontoir/voice.within -/
def c46 : VFunc :=
  ⟨15, .seq (.region [⟨(some 6), none, .move (.const (.bool false)), []⟩] [0, 1, 2])
   (.seq (.region [⟨(some 7), none, .move (.tmp 1), []⟩,
     ⟨(some 8), none, .move (.tmp 0), []⟩,
     ⟨(some 9), none, .bin .leq (.tmp 7) (.tmp 8), []⟩,
     ⟨(some 10), none, .move (.tmp 9), []⟩,
     ⟨(some 11), (some (10, true)), .move (.tmp 0), []⟩,
     ⟨(some 12), (some (10, true)), .move (.tmp 2), []⟩,
     ⟨(some 13), (some (10, true)), .bin .leq (.tmp 11) (.tmp 12), []⟩,
     ⟨(some 14), none, .pick (.tmp 10) (.tmp 13) (.const (.bool false)), []⟩,
     ⟨(some 6), none, .move (.tmp 14), []⟩] [6])
   (.ret)),
  [.tmp 6]⟩
/-- remontoir/voice.isSpan -/
def c47 : VFunc :=
  ⟨24, .seq (.region [⟨(some 3), none, .box (.tmp 0), []⟩,
     ⟨(some 6), none, .move (.const (.bool false)), []⟩] [1, 2, 3])
   (.seq (.region [⟨(some 7), none, .move (.tmp 1), []⟩,
     ⟨(some 8), none, .fieldAddr 0 none (.tmp 3), []⟩,
     ⟨(some 9), none, .load none (.tmp 8), []⟩,
     ⟨(some 10), none, .bin .leq (.tmp 7) (.tmp 9), []⟩,
     ⟨(some 11), none, .move (.tmp 10), []⟩,
     ⟨(some 12), (some (11, true)), .fieldAddr 0 none (.tmp 3), []⟩,
     ⟨(some 13), (some (11, true)), .load none (.tmp 12), []⟩,
     ⟨(some 14), (some (11, true)), .fieldAddr 1 none (.tmp 3), []⟩,
     ⟨(some 15), (some (11, true)), .load none (.tmp 14), []⟩,
     ⟨(some 16), (some (11, true)), .bin .leq (.tmp 13) (.tmp 15), []⟩,
     ⟨(some 17), none, .pick (.tmp 11) (.tmp 16) (.const (.bool false)), []⟩,
     ⟨(some 18), none, .move (.tmp 17), []⟩,
     ⟨(some 19), (some (18, true)), .fieldAddr 1 none (.tmp 3), []⟩,
     ⟨(some 20), (some (18, true)), .load none (.tmp 19), []⟩,
     ⟨(some 21), (some (18, true)), .move (.tmp 2), []⟩,
     ⟨(some 22), (some (18, true)), .bin .leq (.tmp 20) (.tmp 21), []⟩,
     ⟨(some 23), none, .pick (.tmp 18) (.tmp 22) (.const (.bool false)), []⟩,
     ⟨(some 6), none, .move (.tmp 23), []⟩] [6])
   (.ret)),
  [.tmp 6]⟩
/-- remontoir/voice.areWords -/
def c48 : VFunc :=
  ⟨14, .seq (.region [⟨(some 4), none, .move (.const (.bool false)), []⟩] [0, 1])
   (.seq (.region [⟨(some 5), none, .move (.tmp 0), []⟩,
     ⟨(some 6), none, .len (.tmp 5), []⟩,
     ⟨(some 7), none, .move (.tmp 1), []⟩,
     ⟨(some 8), none, .call false (.const (.func 46 [] [])) [(.tmp 6), (.const (.int .i64 1)), (.tmp 7)], []⟩,
     ⟨(some 9), none, .move (.tmp 8), []⟩,
     ⟨(some 10), (some (9, true)), .move (.tmp 0), []⟩,
     ⟨(some 11), (some (9, true)), .call false (.const (.func 84 [] [])) [(.tmp 10), (.const (.func 85 [] []))], []⟩,
     ⟨(some 12), (some (9, true)), .not (.tmp 11), []⟩,
     ⟨(some 13), none, .pick (.tmp 9) (.tmp 12) (.const (.bool false)), []⟩,
     ⟨(some 4), none, .move (.tmp 13), []⟩] [4])
   (.ret)),
  [.tmp 4]⟩
/-- remontoir/caller.within -/
def c57 : VFunc :=
  ⟨15, .seq (.region [⟨(some 6), none, .move (.const (.bool false)), []⟩] [0, 1, 2])
   (.seq (.region [⟨(some 7), none, .move (.tmp 1), []⟩,
     ⟨(some 8), none, .move (.tmp 0), []⟩,
     ⟨(some 9), none, .bin .leq (.tmp 7) (.tmp 8), []⟩,
     ⟨(some 10), none, .move (.tmp 9), []⟩,
     ⟨(some 11), (some (10, true)), .move (.tmp 0), []⟩,
     ⟨(some 12), (some (10, true)), .move (.tmp 2), []⟩,
     ⟨(some 13), (some (10, true)), .bin .leq (.tmp 11) (.tmp 12), []⟩,
     ⟨(some 14), none, .pick (.tmp 10) (.tmp 13) (.const (.bool false)), []⟩,
     ⟨(some 6), none, .move (.tmp 14), []⟩] [6])
   (.ret)),
  [.tmp 6]⟩
/-- remontoir/caller.isCall -/
def c58 : VFunc :=
  ⟨27, .seq (.region [⟨(some 2), none, .box (.tmp 0), []⟩,
     ⟨(some 3), none, .box (.tmp 1), []⟩,
     ⟨(some 4), none, .move (.const (.bool false)), []⟩] [2, 3])
   (.seq (.region [⟨(some 5), none, .fieldAddr 0 none (.tmp 3), []⟩,
     ⟨(some 6), none, .load none (.tmp 5), []⟩,
     ⟨(some 7), none, .call false (.const (.func 57 [] [])) [(.tmp 6), (.const (.int .i64 0)), (.const (.int .i64 3599))], []⟩,
     ⟨(some 8), none, .move (.tmp 7), []⟩,
     ⟨(some 9), (some (8, true)), .fieldAddr 1 none (.tmp 3), []⟩,
     ⟨(some 10), (some (8, true)), .load none (.tmp 9), []⟩,
     ⟨(some 11), (some (8, true)), .call false (.const (.func 57 [] [])) [(.tmp 10), (.const (.int .i64 0)), (.const (.int .i64 3600))], []⟩,
     ⟨(some 12), none, .pick (.tmp 8) (.tmp 11) (.const (.bool false)), []⟩,
     ⟨(some 13), none, .move (.tmp 12), []⟩,
     ⟨(some 14), (some (13, true)), .fieldAddr 2 none (.tmp 3), []⟩,
     ⟨(some 15), (some (13, true)), .load none (.tmp 14), []⟩,
     ⟨(some 16), (some (13, true)), .call false (.const (.func 57 [] [])) [(.tmp 15), (.const (.int .i64 1)), (.const (.int .i64 5))], []⟩,
     ⟨(some 17), none, .pick (.tmp 13) (.tmp 16) (.const (.bool false)), []⟩,
     ⟨(some 18), none, .move (.tmp 17), []⟩,
     ⟨(some 19), (some (18, true)), .fieldAddr 3 none (.tmp 3), []⟩,
     ⟨(some 20), (some (18, true)), .load none (.tmp 19), []⟩,
     ⟨(some 21), (some (18, true)), .fieldAddr 4 none (.tmp 2), []⟩,
     ⟨(some 22), (some (18, true)), .load none (.tmp 21), []⟩,
     ⟨(some 23), (some (18, true)), .len (.tmp 22), []⟩,
     ⟨(some 24), (some (18, true)), .bin .sub (.tmp 23) (.const (.int .i64 1)), []⟩,
     ⟨(some 25), (some (18, true)), .call false (.const (.func 57 [] [])) [(.tmp 20), (.const (.int .i64 0)), (.tmp 24)], []⟩,
     ⟨(some 26), none, .pick (.tmp 18) (.tmp 25) (.const (.bool false)), []⟩,
     ⟨(some 4), none, .move (.tmp 26), []⟩] [4])
   (.ret)),
  [.tmp 4]⟩
/-- (remontoir/caller.hour).joined -/
def c60 : VFunc :=
  ⟨4, .seq (.region [⟨(some 1), none, .box (.tmp 0), []⟩,
     ⟨(some 2), none, .move (.const (.nilf)), []⟩] [1])
   (.seq (.region [⟨(some 3), none, .mkfunc 99 [] [(.tmp 1)], []⟩,
     ⟨(some 2), none, .move (.tmp 3), []⟩] [2])
   (.ret)),
  [.tmp 2]⟩
/-- (remontoir/caller.hour).up -/
def c61 : VFunc :=
  ⟨19, .seq (.region [⟨(some 2), none, .box (.tmp 0), []⟩,
     ⟨(some 4), none, .move (.const (.int .i64 0)), []⟩] [1, 2])
   (.seq (.region [⟨(some 5), none, .move (.tmp 1), []⟩,
     ⟨(some 6), none, .fieldAddr 0 (some 6) (.tmp 2), []⟩,
     ⟨(some 7), none, .fieldAddr 0 none (.tmp 6), []⟩,
     ⟨(some 8), none, .load none (.tmp 7), []⟩,
     ⟨(some 9), none, .bin .add (.tmp 5) (.tmp 8), []⟩,
     ⟨(some 10), none, .bin .sub (.tmp 9) (.const (.int .i64 1)), []⟩,
     ⟨(some 11), none, .fieldAddr 0 (some 6) (.tmp 2), []⟩,
     ⟨(some 12), none, .fieldAddr 0 none (.tmp 11), []⟩,
     ⟨(some 13), none, .load none (.tmp 12), []⟩,
     ⟨(some 14), none, .bin .quo (.tmp 10) (.tmp 13), []⟩,
     ⟨(some 15), none, .fieldAddr 0 (some 6) (.tmp 2), []⟩,
     ⟨(some 16), none, .fieldAddr 0 none (.tmp 15), []⟩,
     ⟨(some 17), none, .load none (.tmp 16), []⟩,
     ⟨(some 18), none, .bin .mul (.tmp 14) (.tmp 17), []⟩,
     ⟨(some 4), none, .move (.tmp 18), []⟩] [4])
   (.ret)),
  [.tmp 4]⟩
def c63_l0 : VCode := .loop [4, 5, 10, 11, 12] (.seq (.region [⟨(some 13), none, .bin .lss (.tmp 12) (.tmp 11), []⟩] [4, 5, 10, 11, 12, 13])
     (.seq (.cond (.tmp 13) (.skip) (.exit 0))
     (.seq (.block 1 (.seq (.region [⟨(some 14), none, .idxAddr none 1 false (.tmp 10) (.tmp 12), []⟩,
        ⟨(some 15), none, .load none (.tmp 14), []⟩,
        ⟨(some 7), none, .move (.tmp 15), []⟩] [4, 5, 7, 10, 11, 12])
      (.region [⟨(some 16), none, .move (.tmp 7), []⟩,
        ⟨(some 17), none, .fieldAddr 6 (some 10) (.tmp 5), []⟩,
        ⟨(some 18), none, .idxAddr (some 10) 1 false (.tmp 17) (.tmp 16), []⟩,
        ⟨none, none, .store 1 (.tmp 18) (.const (.bool true)), []⟩] [4, 5, 10, 11, 12])))
     (.region [⟨(some 19), none, .bin .add (.tmp 12) (.const (.int .i64 1)), []⟩,
       ⟨(some 12), none, .move (.tmp 19), []⟩] [4, 5, 10, 11, 12]))))
/-- remontoir/voice.opened -/
def c63 : VFunc :=
  ⟨21, .seq (.region [⟨(some 2), none, .box (.tmp 0), []⟩,
     ⟨(some 4), none, .alloc [.slice 0 [] .nil, .slice 0 [] .nil, .int .i64 0, .int .i64 0, .int .i64 0, .int .i64 0, .bool false, .bool false, .bool false, .bool false, .bool false, .bool false, .bool false, .bool false, .bool false, .bool false], []⟩] [1, 2, 4])
   (.seq (.region [⟨(some 8), none, .load (some 6) (.tmp 2), []⟩,
     ⟨(some 9), none, .build [.slice 0 [] .nil, .slice 0 [] .nil, .int .i64 0, .int .i64 0, .int .i64 0, .int .i64 0, .bool false, .bool false, .bool false, .bool false, .bool false, .bool false, .bool false, .bool false, .bool false, .bool false] [(0, 6, (.tmp 8))], []⟩,
     ⟨(some 5), none, .alloc [.slice 0 [] .nil, .slice 0 [] .nil, .int .i64 0, .int .i64 0, .int .i64 0, .int .i64 0, .bool false, .bool false, .bool false, .bool false, .bool false, .bool false, .bool false, .bool false, .bool false, .bool false], []⟩,
     ⟨none, none, .store 16 (.tmp 5) (.tmp 9), []⟩] [1, 4, 5])
   (.seq (.seq (.region [⟨(some 10), none, .move (.tmp 1), []⟩,
     ⟨(some 11), none, .len (.tmp 10), []⟩,
     ⟨(some 12), none, .move (.const (.int .i64 0)), []⟩] [4, 5, 10, 11, 12])
   (.block 0 (c63_l0)))
   (.seq (.region [⟨(some 20), none, .load (some 16) (.tmp 5), []⟩,
     ⟨none, none, .store 16 (.tmp 4) (.tmp 20), []⟩] [4])
   (.ret)))),
  [.cell 4 (some 16)]⟩
def c64_l0 : VCode := .loop [3, 7, 8] (.seq (.region [⟨(some 9), none, .bin .lss (.tmp 8) (.tmp 7), []⟩] [3, 7, 8, 9])
     (.seq (.cond (.tmp 9) (.skip) (.exit 0))
     (.seq (.block 1 (.seq (.region [⟨(some 10), none, .move (.tmp 8), []⟩,
        ⟨(some 4), none, .move (.tmp 10), []⟩] [3, 4, 7, 8])
      (.region [⟨(some 11), none, .move (.tmp 3), []⟩,
        ⟨(some 12), none, .move (.tmp 4), []⟩,
        ⟨(some 13), none, .mkslice 1 [(.tmp 12)], []⟩,
        ⟨(some 14), none, .append 1 (.tmp 11) (.tmp 13), []⟩,
        ⟨(some 3), none, .move (.tmp 14), []⟩] [3, 7, 8])))
     (.region [⟨(some 15), none, .bin .add (.tmp 8) (.const (.int .i64 1)), []⟩,
       ⟨(some 8), none, .move (.tmp 15), []⟩] [3, 7, 8]))))
/-- remontoir/voice.all -/
def c64 : VFunc :=
  ⟨17, .seq (.region [⟨(some 1), none, .box (.tmp 0), []⟩,
     ⟨(some 2), none, .move (.const (.slice 0 [] .nil)), []⟩] [1])
   (.seq (.region [⟨(some 3), none, .move (.const (.slice 0 [] .nil)), []⟩] [1, 3])
   (.seq (.seq (.region [⟨(some 5), none, .fieldAddr 1 none (.tmp 1), []⟩,
     ⟨(some 6), none, .load none (.tmp 5), []⟩,
     ⟨(some 7), none, .len (.tmp 6), []⟩,
     ⟨(some 8), none, .move (.const (.int .i64 0)), []⟩] [3, 7, 8])
   (.block 0 (c64_l0)))
   (.seq (.region [⟨(some 16), none, .move (.tmp 3), []⟩,
     ⟨(some 2), none, .move (.tmp 16), []⟩] [2])
   (.ret)))),
  [.tmp 2]⟩
def c66_a0 : VCode := .region [⟨(some 13), none, .move (.tmp 54), []⟩] [1, 6, 9, 10, 13]
def c66_b0 : VCode := .block 3 (.seq (.region [⟨(some 55), none, .move (.tmp 13), []⟩,
            ⟨(some 56), none, .load none (.tmp 9), []⟩,
            ⟨(some 57), none, .bin .gtr (.tmp 55) (.tmp 56), []⟩] [1, 6, 9, 10, 13, 57])
          (.cond (.tmp 57) (.seq (.region [⟨(some 58), none, .move (.tmp 13), []⟩,
             ⟨none, none, .store 1 (.tmp 9) (.tmp 58), []⟩] [1, 6, 10])
           (.region [⟨(some 59), none, .fieldAddr 4 none (.tmp 1), []⟩,
             ⟨(some 60), none, .load none (.tmp 59), []⟩,
             ⟨(some 61), none, .load (some 2) (.tmp 6), []⟩,
             ⟨(some 62), none, .load none (.tmp 10), []⟩,
             ⟨none, none, .mapset true [some .i64, some .i64] (.tmp 60) (.tmp 61) (.tmp 62), []⟩] [])) (.skip)))
def c66_l0 : VCode := .loop [0, 1, 3, 5, 6, 9, 31, 32] (.seq (.region [⟨(some 33), none, .bin .lss (.tmp 32) (.tmp 31), []⟩] [0, 1, 3, 5, 6, 9, 31, 32, 33])
     (.seq (.cond (.tmp 33) (.skip) (.exit 0))
     (.seq (.block 1 (.seq (.region [⟨(some 34), none, .move (.tmp 32), []⟩,
        ⟨(some 10), none, .alloc [.int .i64 0], []⟩,
        ⟨none, none, .store 1 (.tmp 10) (.tmp 34), []⟩] [0, 1, 3, 5, 6, 9, 10, 31, 32])
      (.seq (.seq (.region [⟨(some 35), none, .move (.tmp 0), []⟩,
        ⟨(some 36), none, .load none (.tmp 10), []⟩,
        ⟨(some 37), none, .bin .shr (.tmp 35) (.tmp 36), []⟩,
        ⟨(some 38), none, .bin .and (.tmp 37) (.const (.int .i64 1)), []⟩,
        ⟨(some 39), none, .bin .eql (.tmp 38) (.const (.int .i64 0)), []⟩] [0, 1, 3, 5, 6, 9, 10, 31, 32, 39])
      (.cond (.tmp 39) (.exit 1) (.skip)))
      (.seq (.region [⟨(some 40), none, .load none (.tmp 3), []⟩,
        ⟨(some 41), none, .move (.tmp 0), []⟩,
        ⟨(some 42), none, .load none (.tmp 10), []⟩,
        ⟨(some 43), none, .bin .shl (.const (.int .i64 1)) (.tmp 42), []⟩,
        ⟨(some 44), none, .bin .andNot (.tmp 41) (.tmp 43), []⟩,
        ⟨(some 45), none, .call false (.tmp 40) [(.tmp 44)], []⟩,
        ⟨(some 11), none, .move (.tmp 45), []⟩] [0, 1, 3, 5, 6, 9, 10, 11, 31, 32])
      (.seq (.seq (.region [⟨(some 46), none, .move (.tmp 11), []⟩,
        ⟨(some 47), none, .bin .lss (.tmp 46) (.const (.int .i64 0)), []⟩] [0, 1, 3, 5, 6, 9, 10, 11, 31, 32, 47])
      (.cond (.tmp 47) (.exit 1) (.skip)))
      (.seq (.region [⟨(some 48), none, .load (some 5) (.tmp 1), []⟩,
        ⟨(some 49), none, .load none (.tmp 10), []⟩,
        ⟨(some 50), none, .bin .shl (.const (.int .i64 1)) (.tmp 49), []⟩,
        ⟨(some 51), none, .move (.tmp 11), []⟩,
        ⟨(some 52), none, .call false (.const (.func 67 [] [])) [(.tmp 48), (.tmp 50), (.tmp 51), (.const (.int .i64 0))], []⟩] [0, 1, 3, 5, 6, 9, 10, 31, 32, 52])
      (.block 2 (.rangeFunc (.tmp 52) [53, 54] c66_a0
        c66_b0 [1, 6, 9, 10]))))))))
     (.region [⟨(some 63), none, .bin .add (.tmp 32) (.const (.int .i64 1)), []⟩,
       ⟨(some 32), none, .move (.tmp 63), []⟩] [0, 1, 3, 5, 6, 9, 31, 32]))))
/-- remontoir/spare.opened$1 -/
def c66 : VFunc :=
  ⟨69, .seq (.region [⟨(some 5), none, .move (.const (.int .i64 0)), []⟩] [0, 1, 2, 3, 5])
   (.seq (.region [⟨(some 14), none, .move (.tmp 0), []⟩,
     ⟨(some 15), none, .move (.tmp 0), []⟩,
     ⟨(some 16), none, .call false (.const (.func 31 [] [])) [(.tmp 15)], []⟩,
     ⟨(some 17), none, .build [.int .i64 0, .int .i64 0] [(0, 1, (.tmp 14)), (1, 1, (.tmp 16))], []⟩,
     ⟨(some 6), none, .alloc [.int .i64 0, .int .i64 0], []⟩,
     ⟨none, none, .store 2 (.tmp 6) (.tmp 17), []⟩] [0, 1, 2, 3, 5, 6])
   (.seq (.seq (.region [⟨(some 19), none, .fieldAddr 3 none (.tmp 1), []⟩,
     ⟨(some 20), none, .load none (.tmp 19), []⟩,
     ⟨(some 21), none, .load (some 2) (.tmp 6), []⟩,
     ⟨(some 22), none, .lookup true [some .i64, some .i64] (.int .i64 0) true (.tmp 20) (.tmp 21), []⟩,
     ⟨(some 18), none, .move (.tmp 22), []⟩,
     ⟨(some 23), none, .extract (.tmp 18) 0, []⟩,
     ⟨(some 24), none, .extract (.tmp 18) 1, []⟩,
     ⟨(some 7), none, .move (.tmp 23), []⟩,
     ⟨(some 8), none, .move (.tmp 24), []⟩] [0, 1, 2, 3, 5, 6, 7, 8])
   (.seq (.region [⟨(some 25), none, .move (.tmp 8), []⟩] [0, 1, 2, 3, 5, 6, 7, 25])
   (.cond (.tmp 25) (.seq (.region [⟨(some 26), none, .move (.tmp 7), []⟩,
      ⟨(some 5), none, .move (.tmp 26), []⟩] [5])
    (.ret)) (.skip))))
   (.seq (.region [⟨(some 9), none, .alloc [.int .i64 0], []⟩,
     ⟨none, none, .store 1 (.tmp 9) (.const (.int .i64 (-1))), []⟩] [0, 1, 2, 3, 5, 6, 9])
   (.seq (.seq (.region [⟨(some 27), none, .move (.tmp 0), []⟩,
     ⟨(some 28), none, .bin .eql (.tmp 27) (.const (.int .i64 0)), []⟩] [0, 1, 2, 3, 5, 6, 9, 28])
   (.cond (.tmp 28) (.region [⟨none, none, .store 1 (.tmp 9) (.const (.int .i64 0)), []⟩] [0, 1, 2, 3, 5, 6, 9]) (.skip)))
   (.seq (.seq (.region [⟨(some 29), none, .fieldAddr 2 none (.tmp 2), []⟩,
     ⟨(some 30), none, .load none (.tmp 29), []⟩,
     ⟨(some 31), none, .len (.tmp 30), []⟩,
     ⟨(some 32), none, .move (.const (.int .i64 0)), []⟩] [0, 1, 3, 5, 6, 9, 31, 32])
   (.block 0 (c66_l0)))
   (.seq (.region [⟨(some 64), none, .fieldAddr 3 none (.tmp 1), []⟩,
     ⟨(some 65), none, .load none (.tmp 64), []⟩,
     ⟨(some 66), none, .load (some 2) (.tmp 6), []⟩,
     ⟨(some 67), none, .load none (.tmp 9), []⟩,
     ⟨none, none, .mapset true [some .i64, some .i64] (.tmp 65) (.tmp 66) (.tmp 67), []⟩] [9])
   (.seq (.region [⟨(some 68), none, .load none (.tmp 9), []⟩,
     ⟨(some 5), none, .move (.tmp 68), []⟩] [5])
   (.ret)))))))),
  [.tmp 5]⟩
/-- (remontoir/spare.store).follow -/
def c67 : VFunc :=
  ⟨10, .seq (.region [⟨(some 4), none, .box (.tmp 0), []⟩,
     ⟨(some 5), none, .box (.tmp 1), []⟩,
     ⟨(some 6), none, .box (.tmp 2), []⟩,
     ⟨(some 7), none, .box (.tmp 3), []⟩,
     ⟨(some 8), none, .move (.const (.nilf)), []⟩] [4, 5, 6, 7])
   (.seq (.region [⟨(some 9), none, .mkfunc 106 [] [(.tmp 4), (.tmp 5), (.tmp 6), (.tmp 7)], []⟩,
     ⟨(some 8), none, .move (.tmp 9), []⟩] [8])
   (.ret)),
  [.tmp 8]⟩
/-- (remontoir/spare.machine).last -/
def c68 : VFunc :=
  ⟨14, .seq (.region [⟨(some 1), none, .box (.tmp 0), []⟩,
     ⟨(some 2), none, .move (.const (.int .i64 0)), []⟩] [1])
   (.seq (.region [⟨(some 3), none, .call true (.const (.func 107 [] [])) [], []⟩,
     ⟨(some 4), none, .field 0 none (.tmp 3), []⟩,
     ⟨(some 5), none, .fieldAddr 0 (some 5) (.tmp 1), []⟩,
     ⟨(some 6), none, .fieldAddr 2 (some 2) (.tmp 5), []⟩,
     ⟨(some 7), none, .load (some 2) (.tmp 6), []⟩,
     ⟨(some 8), none, .call true (.tmp 4) [(.tmp 7)], []⟩,
     ⟨(some 9), none, .fieldAddr 0 (some 5) (.tmp 1), []⟩,
     ⟨(some 10), none, .fieldAddr 1 none (.tmp 9), []⟩,
     ⟨(some 11), none, .load none (.tmp 10), []⟩,
     ⟨(some 12), none, .bin .sub (.tmp 8) (.tmp 11), []⟩,
     ⟨(some 13), none, .max [(.const (.int .i64 0)), (.tmp 12)], []⟩,
     ⟨(some 2), none, .move (.tmp 13), []⟩] [2])
   (.ret)),
  [.tmp 2]⟩
def c69_l0 : VCode := .loop [0, 7, 8, 9] (.seq (.region [⟨(some 10), none, .bin .lss (.tmp 9) (.tmp 8), []⟩] [0, 7, 8, 9, 10])
     (.seq (.cond (.tmp 10) (.skip) (.exit 0))
     (.seq (.block 1 (.seq (.region [⟨(some 11), none, .idxAddr none 1 false (.tmp 7) (.tmp 9), []⟩,
        ⟨(some 12), none, .load none (.tmp 11), []⟩,
        ⟨(some 6), none, .move (.tmp 12), []⟩] [0, 6, 7, 8, 9])
      (.region [⟨(some 13), none, .move (.tmp 0), []⟩,
        ⟨(some 14), none, .move (.tmp 6), []⟩,
        ⟨(some 15), none, .min [(.tmp 13), (.tmp 14)], []⟩,
        ⟨(some 0), none, .move (.tmp 15), []⟩] [0, 7, 8, 9])))
     (.region [⟨(some 16), none, .bin .add (.tmp 9) (.const (.int .i64 1)), []⟩,
       ⟨(some 9), none, .move (.tmp 16), []⟩] [0, 7, 8, 9]))))
/-- remontoir/spare.least[int] -/
def c69 : VFunc :=
  ⟨18, .seq (.region [⟨(some 4), none, .move (.const (.int .i64 0)), []⟩] [0, 1])
   (.seq (.seq (.region [⟨(some 7), none, .move (.tmp 1), []⟩,
     ⟨(some 8), none, .len (.tmp 7), []⟩,
     ⟨(some 9), none, .move (.const (.int .i64 0)), []⟩] [0, 7, 8, 9])
   (.block 0 (c69_l0)))
   (.seq (.region [⟨(some 17), none, .move (.tmp 0), []⟩,
     ⟨(some 4), none, .move (.tmp 17), []⟩] [4])
   (.ret))),
  [.tmp 4]⟩
def c70_l0 : VCode := .loop [1, 2, 9, 10, 11] (.seq (.region [⟨(some 12), none, .bin .lss (.tmp 11) (.tmp 10), []⟩] [1, 2, 9, 10, 11, 12])
     (.seq (.cond (.tmp 12) (.skip) (.exit 0))
     (.seq (.block 1 (.seq (.region [⟨(some 13), none, .idxAddr none 1 false (.tmp 9) (.tmp 11), []⟩,
        ⟨(some 14), none, .load none (.tmp 13), []⟩,
        ⟨(some 6), none, .move (.tmp 14), []⟩] [1, 2, 6, 9, 10, 11])
      (.seq (.region [⟨(some 15), none, .fieldAddr 0 (some 6) (.tmp 2), []⟩,
        ⟨(some 16), none, .load (some 6) (.tmp 15), []⟩,
        ⟨(some 17), none, .move (.tmp 6), []⟩,
        ⟨(some 18), none, .move (.tmp 1), []⟩,
        ⟨(some 19), none, .build [.int .i64 0, .int .i64 0, .int .i64 0, .int .i64 0, .slice 0 [] .nil, .slice 0 [] .nil, .slice 0 [] .nil, .int .i64 0] [(0, 6, (.tmp 16)), (6, 1, (.tmp 17)), (7, 1, (.tmp 18))], []⟩,
        ⟨(some 20), none, .call false (.const (.func 108 [] [])) [(.tmp 19)], []⟩,
        ⟨(some 21), none, .len (.tmp 20), []⟩,
        ⟨(some 22), none, .bin .gtr (.tmp 21) (.const (.int .i64 0)), []⟩] [1, 2, 9, 10, 11, 22])
      (.cond (.tmp 22) (.seq (.region [⟨(some 4), none, .move (.const (.bool false)), []⟩] [4])
       (.ret)) (.skip)))))
     (.region [⟨(some 23), none, .bin .add (.tmp 11) (.const (.int .i64 1)), []⟩,
       ⟨(some 11), none, .move (.tmp 23), []⟩] [1, 2, 9, 10, 11]))))
/-- (remontoir/caller.hours).enough -/
def c70 : VFunc :=
  ⟨24, .seq (.region [⟨(some 2), none, .box (.tmp 0), []⟩,
     ⟨(some 4), none, .move (.const (.bool false)), []⟩] [1, 2])
   (.seq (.seq (.region [⟨(some 7), none, .fieldAddr 0 (some 6) (.tmp 2), []⟩,
     ⟨(some 8), none, .fieldAddr 5 none (.tmp 7), []⟩,
     ⟨(some 9), none, .load none (.tmp 8), []⟩,
     ⟨(some 10), none, .len (.tmp 9), []⟩,
     ⟨(some 11), none, .move (.const (.int .i64 0)), []⟩] [1, 2, 9, 10, 11])
   (.block 0 (c70_l0)))
   (.seq (.region [⟨(some 4), none, .move (.const (.bool true)), []⟩] [4])
   (.ret))),
  [.tmp 4]⟩
/-- remontoir/caller.Fewest$1 -/
def c71 : VFunc :=
  ⟨17, .seq (.region [⟨(some 4), none, .move (.const (.int .i64 0)), []⟩] [0, 1, 2])
   (.seq (.seq (.region [⟨(some 5), none, .move (.tmp 0), []⟩,
     ⟨(some 6), none, .bin .eql (.tmp 5) (.const (.int .i64 12)), []⟩,
     ⟨(some 7), none, .move (.tmp 6), []⟩,
     ⟨(some 8), (some (7, false)), .load none (.tmp 1), []⟩,
     ⟨(some 9), (some (7, false)), .move (.tmp 0), []⟩,
     ⟨(some 10), (some (7, false)), .call false (.tmp 8) [(.tmp 9)], []⟩,
     ⟨(some 11), none, .pick (.tmp 7) (.const (.bool true)) (.tmp 10), []⟩] [0, 2, 11])
   (.cond (.tmp 11) (.seq (.region [⟨(some 12), none, .move (.tmp 0), []⟩,
      ⟨(some 4), none, .move (.tmp 12), []⟩] [4])
    (.ret)) (.skip)))
   (.seq (.region [⟨(some 13), none, .load none (.tmp 2), []⟩,
     ⟨(some 14), none, .move (.tmp 0), []⟩,
     ⟨(some 15), none, .bin .add (.tmp 14) (.const (.int .i64 1)), []⟩,
     ⟨(some 16), none, .call false (.tmp 13) [(.tmp 15)], []⟩,
     ⟨(some 4), none, .move (.tmp 16), []⟩] [4])
   (.ret))),
  [.tmp 4]⟩
/-- remontoir/beat.truth -/
def c72 : VFunc :=
  ⟨2, .seq (.region [⟨(some 0), none, .alloc [.int .i64 0, .int .i64 0], []⟩] [0])
   (.seq (.region [⟨(some 1), none, .build [.int .i64 0, .int .i64 0] [(0, 1, (.const (.int .i64 (-1)))), (1, 1, (.const (.int .i64 0)))], []⟩,
     ⟨none, none, .store 2 (.tmp 0) (.tmp 1), []⟩] [0])
   (.ret)),
  [.cell 0 (some 2)]⟩
/-- (remontoir/voice.book).say -/
def c73 : VFunc :=
  ⟨20, .seq (.region [⟨(some 2), none, .box (.tmp 0), []⟩,
     ⟨(some 3), none, .box (.tmp 1), []⟩,
     ⟨(some 4), none, .move (.const (.slice 0 [] .nil)), []⟩,
     ⟨(some 5), none, .move (.const (.bool false)), []⟩] [2, 3])
   (.seq (.region [⟨(some 9), none, .call false (.const (.func 109 [] [])) [], []⟩,
     ⟨(some 6), none, .alloc [.nilf], []⟩,
     ⟨none, none, .store 1 (.tmp 6) (.tmp 9), []⟩] [2, 3, 6])
   (.seq (.region [⟨(some 10), none, .mkmap, []⟩,
     ⟨(some 11), none, .load none (.tmp 3), []⟩,
     ⟨(some 12), none, .len (.tmp 11), []⟩,
     ⟨(some 13), none, .mkslice 1 [], []⟩,
     ⟨none, none, .mapset false [some .i64] (.tmp 10) (.tmp 12) (.tmp 13), []⟩,
     ⟨(some 14), none, .move (.tmp 10), []⟩,
     ⟨(some 7), none, .alloc [.nilm], []⟩,
     ⟨none, none, .store 1 (.tmp 7) (.tmp 14), []⟩] [2, 3, 6, 7])
   (.seq (.region [⟨(some 8), none, .alloc [.nilf], []⟩] [2, 3, 6, 7, 8])
   (.seq (.region [⟨(some 15), none, .mkfunc 110 [] [(.tmp 7), (.tmp 2), (.tmp 3), (.tmp 8), (.tmp 6)], []⟩,
     ⟨none, none, .store 1 (.tmp 8) (.tmp 15), []⟩] [8])
   (.seq (.region [⟨(some 16), none, .load none (.tmp 8), []⟩,
     ⟨(some 17), none, .call false (.tmp 16) [(.const (.int .i64 0))], []⟩,
     ⟨(some 18), none, .extract (.tmp 17) 0, []⟩,
     ⟨(some 19), none, .extract (.tmp 17) 1, []⟩,
     ⟨(some 4), none, .move (.tmp 18), []⟩,
     ⟨(some 5), none, .move (.tmp 19), []⟩] [4, 5])
   (.ret)))))),
  [.tmp 4, .tmp 5]⟩
def c74_l0 : VCode := .loop [0, 1, 5] (.seq (.seq (.region [⟨(some 6), none, .move (.tmp 5), []⟩,
       ⟨(some 7), none, .move (.tmp 0), []⟩,
       ⟨(some 8), none, .len (.tmp 7), []⟩,
       ⟨(some 9), none, .bin .lss (.tmp 6) (.tmp 8), []⟩,
       ⟨(some 10), none, .move (.tmp 9), []⟩,
       ⟨(some 11), (some (10, true)), .move (.tmp 5), []⟩,
       ⟨(some 12), (some (10, true)), .move (.tmp 1), []⟩,
       ⟨(some 13), (some (10, true)), .len (.tmp 12), []⟩,
       ⟨(some 14), (some (10, true)), .bin .lss (.tmp 11) (.tmp 13), []⟩,
       ⟨(some 15), none, .pick (.tmp 10) (.tmp 14) (.const (.bool false)), []⟩,
       ⟨(some 16), none, .move (.tmp 15), []⟩,
       ⟨(some 17), (some (16, true)), .move (.tmp 0), []⟩,
       ⟨(some 18), (some (16, true)), .move (.tmp 5), []⟩,
       ⟨(some 19), (some (16, true)), .idxAddr none 1 false (.tmp 17) (.tmp 18), []⟩,
       ⟨(some 20), (some (16, true)), .load none (.tmp 19), []⟩,
       ⟨(some 21), (some (16, true)), .move (.tmp 1), []⟩,
       ⟨(some 22), (some (16, true)), .move (.tmp 5), []⟩,
       ⟨(some 23), (some (16, true)), .idxAddr none 1 false (.tmp 21) (.tmp 22), []⟩,
       ⟨(some 24), (some (16, true)), .load none (.tmp 23), []⟩,
       ⟨(some 25), (some (16, true)), .bin .eql (.tmp 20) (.tmp 24), []⟩,
       ⟨(some 26), none, .pick (.tmp 16) (.tmp 25) (.const (.bool false)), []⟩] [0, 1, 5, 26])
     (.cond (.tmp 26) (.skip) (.exit 0)))
     (.block 1 (.region [⟨(some 27), none, .move (.tmp 5), []⟩,
        ⟨(some 28), none, .bin .add (.tmp 27) (.const (.int .i64 1)), []⟩,
        ⟨(some 5), none, .move (.tmp 28), []⟩] [0, 1, 5])))
/-- remontoir/remontoirref00.First -/
def c74 : VFunc :=
  ⟨30, .seq (.region [⟨(some 4), none, .move (.const (.int .i64 0)), []⟩] [0, 1])
   (.seq (.region [⟨(some 5), none, .move (.const (.int .i64 0)), []⟩] [0, 1, 5])
   (.seq (.block 0 (c74_l0))
   (.seq (.region [⟨(some 29), none, .move (.tmp 5), []⟩,
     ⟨(some 4), none, .move (.tmp 29), []⟩] [4])
   (.ret)))),
  [.tmp 4]⟩
/-- remontoir/spare.off -/
def c75 : VFunc :=
  ⟨24, .seq (.region [⟨(some 3), none, .box (.tmp 0), []⟩,
     ⟨(some 4), none, .box (.tmp 1), []⟩,
     ⟨(some 6), none, .move (.const (.int .i64 0)), []⟩] [2, 3, 4])
   (.seq (.region [⟨(some 8), none, .fieldAddr 2 none (.tmp 3), []⟩,
     ⟨(some 9), none, .load none (.tmp 8), []⟩,
     ⟨(some 10), none, .fieldAddr 0 none (.tmp 4), []⟩,
     ⟨(some 11), none, .load none (.tmp 10), []⟩,
     ⟨(some 12), none, .idxAddr none 5 true (.tmp 9) (.tmp 11), []⟩,
     ⟨(some 13), none, .load (some 5) (.tmp 12), []⟩,
     ⟨(some 7), none, .alloc [.int .i64 0, .int .i64 0, .int .i64 0, .int .i64 0, .int .i64 0], []⟩,
     ⟨none, none, .store 5 (.tmp 7) (.tmp 13), []⟩] [2, 4, 7])
   (.seq (.region [⟨(some 14), none, .fieldAddr 4 none (.tmp 7), []⟩,
     ⟨(some 15), none, .load none (.tmp 14), []⟩,
     ⟨(some 16), none, .move (.tmp 2), []⟩,
     ⟨(some 17), none, .fieldAddr 1 none (.tmp 4), []⟩,
     ⟨(some 18), none, .load none (.tmp 17), []⟩,
     ⟨(some 19), none, .bin .sub (.tmp 16) (.tmp 18), []⟩,
     ⟨(some 20), none, .fieldAddr 1 none (.tmp 7), []⟩,
     ⟨(some 21), none, .load none (.tmp 20), []⟩,
     ⟨(some 22), none, .bin .sub (.tmp 19) (.tmp 21), []⟩,
     ⟨(some 23), none, .bin .mul (.tmp 15) (.tmp 22), []⟩,
     ⟨(some 6), none, .move (.tmp 23), []⟩] [6])
   (.ret))),
  [.tmp 6]⟩
def c76_l0 : VCode := .loop [1, 3, 32, 33, 34] (.seq (.region [⟨(some 35), none, .bin .lss (.tmp 34) (.tmp 33), []⟩] [1, 3, 32, 33, 34, 35])
     (.seq (.cond (.tmp 35) (.skip) (.exit 0))
     (.seq (.block 1 (.seq (.region [⟨(some 36), none, .idxAddr none 2 true (.tmp 32) (.tmp 34), []⟩,
        ⟨(some 37), none, .load (some 2) (.tmp 36), []⟩,
        ⟨(some 5), none, .alloc [.int .i64 0, .int .i64 0], []⟩,
        ⟨none, none, .store 2 (.tmp 5) (.tmp 37), []⟩] [1, 3, 5, 32, 33, 34])
      (.region [⟨(some 38), none, .move (.tmp 3), []⟩,
        ⟨(some 39), none, .move (.tmp 38), []⟩,
        ⟨(some 40), (some (39, true)), .load (some 2) (.tmp 5), []⟩,
        ⟨(some 41), (some (39, true)), .call false (.const (.func 111 [] [])) [(.tmp 40), (.const (.int .i64 1000))], []⟩,
        ⟨(some 42), none, .pick (.tmp 39) (.tmp 41) (.const (.bool false)), []⟩,
        ⟨(some 3), none, .move (.tmp 42), []⟩] [1, 3, 32, 33, 34])))
     (.region [⟨(some 43), none, .bin .add (.tmp 34) (.const (.int .i64 1)), []⟩,
       ⟨(some 34), none, .move (.tmp 43), []⟩] [1, 3, 32, 33, 34]))))
def c76_l1 : VCode := .loop [1, 3, 45, 46, 47] (.seq (.region [⟨(some 48), none, .bin .lss (.tmp 47) (.tmp 46), []⟩] [1, 3, 45, 46, 47, 48])
     (.seq (.cond (.tmp 48) (.skip) (.exit 2))
     (.seq (.block 3 (.seq (.region [⟨(some 49), none, .idxAddr none 4 true (.tmp 45) (.tmp 47), []⟩,
        ⟨(some 50), none, .load (some 4) (.tmp 49), []⟩,
        ⟨(some 7), none, .alloc [.int .i64 0, .int .i64 0, .int .i64 0, .int .i64 0], []⟩,
        ⟨none, none, .store 4 (.tmp 7) (.tmp 50), []⟩] [1, 3, 7, 45, 46, 47])
      (.region [⟨(some 51), none, .move (.tmp 3), []⟩,
        ⟨(some 52), none, .move (.tmp 51), []⟩,
        ⟨(some 53), (some (52, true)), .fieldAddr 0 none (.tmp 7), []⟩,
        ⟨(some 54), (some (52, true)), .load none (.tmp 53), []⟩,
        ⟨(some 55), (some (52, true)), .fieldAddr 1 none (.tmp 1), []⟩,
        ⟨(some 56), (some (52, true)), .load none (.tmp 55), []⟩,
        ⟨(some 57), (some (52, true)), .len (.tmp 56), []⟩,
        ⟨(some 58), (some (52, true)), .bin .sub (.tmp 57) (.const (.int .i64 1)), []⟩,
        ⟨(some 59), (some (52, true)), .call false (.const (.func 79 [] [])) [(.tmp 54), (.const (.int .i64 0)), (.tmp 58)], []⟩,
        ⟨(some 60), none, .pick (.tmp 52) (.tmp 59) (.const (.bool false)), []⟩,
        ⟨(some 61), none, .move (.tmp 60), []⟩,
        ⟨(some 62), (some (61, true)), .fieldAddr 1 none (.tmp 7), []⟩,
        ⟨(some 63), (some (61, true)), .load none (.tmp 62), []⟩,
        ⟨(some 64), (some (61, true)), .fieldAddr 0 none (.tmp 1), []⟩,
        ⟨(some 65), (some (61, true)), .load none (.tmp 64), []⟩,
        ⟨(some 66), (some (61, true)), .bin .sub (.tmp 65) (.const (.int .i64 1)), []⟩,
        ⟨(some 67), (some (61, true)), .call false (.const (.func 79 [] [])) [(.tmp 63), (.const (.int .i64 0)), (.tmp 66)], []⟩,
        ⟨(some 68), none, .pick (.tmp 61) (.tmp 67) (.const (.bool false)), []⟩,
        ⟨(some 69), none, .move (.tmp 68), []⟩,
        ⟨(some 70), (some (69, true)), .fieldAddr 2 (some 2) (.tmp 7), []⟩,
        ⟨(some 71), (some (69, true)), .load (some 2) (.tmp 70), []⟩,
        ⟨(some 72), (some (69, true)), .call false (.const (.func 111 [] [])) [(.tmp 71), (.const (.int .i64 100000))], []⟩,
        ⟨(some 73), none, .pick (.tmp 69) (.tmp 72) (.const (.bool false)), []⟩,
        ⟨(some 3), none, .move (.tmp 73), []⟩] [1, 3, 45, 46, 47])))
     (.region [⟨(some 74), none, .bin .add (.tmp 47) (.const (.int .i64 1)), []⟩,
       ⟨(some 47), none, .move (.tmp 74), []⟩] [1, 3, 45, 46, 47]))))
def c76_l2 : VCode := .loop [1, 3, 76, 77, 78] (.seq (.region [⟨(some 79), none, .bin .lss (.tmp 78) (.tmp 77), []⟩] [1, 3, 76, 77, 78, 79])
     (.seq (.cond (.tmp 79) (.skip) (.exit 4))
     (.seq (.block 5 (.seq (.region [⟨(some 80), none, .idxAddr none 5 true (.tmp 76) (.tmp 78), []⟩,
        ⟨(some 81), none, .load (some 5) (.tmp 80), []⟩,
        ⟨(some 9), none, .alloc [.int .i64 0, .int .i64 0, .int .i64 0, .int .i64 0, .int .i64 0], []⟩,
        ⟨none, none, .store 5 (.tmp 9) (.tmp 81), []⟩] [1, 3, 9, 76, 77, 78])
      (.region [⟨(some 82), none, .move (.tmp 3), []⟩,
        ⟨(some 83), none, .move (.tmp 82), []⟩,
        ⟨(some 84), (some (83, true)), .fieldAddr 0 none (.tmp 9), []⟩,
        ⟨(some 85), (some (83, true)), .load none (.tmp 84), []⟩,
        ⟨(some 86), (some (83, true)), .fieldAddr 0 none (.tmp 1), []⟩,
        ⟨(some 87), (some (83, true)), .load none (.tmp 86), []⟩,
        ⟨(some 88), (some (83, true)), .call false (.const (.func 79 [] [])) [(.tmp 85), (.const (.int .i64 0)), (.tmp 87)], []⟩,
        ⟨(some 89), none, .pick (.tmp 83) (.tmp 88) (.const (.bool false)), []⟩,
        ⟨(some 90), none, .move (.tmp 89), []⟩,
        ⟨(some 91), (some (90, true)), .fieldAddr 1 none (.tmp 9), []⟩,
        ⟨(some 92), (some (90, true)), .load none (.tmp 91), []⟩,
        ⟨(some 93), (some (90, true)), .fieldAddr 1 none (.tmp 1), []⟩,
        ⟨(some 94), (some (90, true)), .load none (.tmp 93), []⟩,
        ⟨(some 95), (some (90, true)), .len (.tmp 94), []⟩,
        ⟨(some 96), (some (90, true)), .bin .sub (.tmp 95) (.const (.int .i64 1)), []⟩,
        ⟨(some 97), (some (90, true)), .call false (.const (.func 79 [] [])) [(.tmp 92), (.const (.int .i64 0)), (.tmp 96)], []⟩,
        ⟨(some 98), none, .pick (.tmp 90) (.tmp 97) (.const (.bool false)), []⟩,
        ⟨(some 99), none, .move (.tmp 98), []⟩,
        ⟨(some 100), (some (99, true)), .fieldAddr 2 none (.tmp 9), []⟩,
        ⟨(some 101), (some (99, true)), .load none (.tmp 100), []⟩,
        ⟨(some 102), (some (99, true)), .fieldAddr 1 none (.tmp 1), []⟩,
        ⟨(some 103), (some (99, true)), .load none (.tmp 102), []⟩,
        ⟨(some 104), (some (99, true)), .len (.tmp 103), []⟩,
        ⟨(some 105), (some (99, true)), .bin .sub (.tmp 104) (.const (.int .i64 1)), []⟩,
        ⟨(some 106), (some (99, true)), .call false (.const (.func 79 [] [])) [(.tmp 101), (.const (.int .i64 (-1))), (.tmp 105)], []⟩,
        ⟨(some 107), none, .pick (.tmp 99) (.tmp 106) (.const (.bool false)), []⟩,
        ⟨(some 108), none, .move (.tmp 107), []⟩,
        ⟨(some 109), (some (108, true)), .fieldAddr 1 none (.tmp 9), []⟩,
        ⟨(some 110), (some (108, true)), .load none (.tmp 109), []⟩,
        ⟨(some 111), (some (108, true)), .fieldAddr 2 none (.tmp 9), []⟩,
        ⟨(some 112), (some (108, true)), .load none (.tmp 111), []⟩,
        ⟨(some 113), (some (108, true)), .bin .neq (.tmp 110) (.tmp 112), []⟩,
        ⟨(some 114), none, .pick (.tmp 108) (.tmp 113) (.const (.bool false)), []⟩,
        ⟨(some 115), none, .move (.tmp 114), []⟩,
        ⟨(some 116), (some (115, true)), .fieldAddr 3 (some 2) (.tmp 9), []⟩,
        ⟨(some 117), (some (115, true)), .load (some 2) (.tmp 116), []⟩,
        ⟨(some 118), (some (115, true)), .call false (.const (.func 111 [] [])) [(.tmp 117), (.const (.int .i64 200000))], []⟩,
        ⟨(some 119), none, .pick (.tmp 115) (.tmp 118) (.const (.bool false)), []⟩,
        ⟨(some 3), none, .move (.tmp 119), []⟩] [1, 3, 76, 77, 78])))
     (.region [⟨(some 120), none, .bin .add (.tmp 78) (.const (.int .i64 1)), []⟩,
       ⟨(some 78), none, .move (.tmp 120), []⟩] [1, 3, 76, 77, 78]))))
/-- remontoir/beat.Check -/
def c76 : VFunc :=
  ⟨123, .seq (.region [⟨(some 1), none, .box (.tmp 0), []⟩,
     ⟨(some 2), none, .move (.const (.int .i64 0)), []⟩] [1])
   (.seq (.region [⟨(some 10), none, .fieldAddr 0 none (.tmp 1), []⟩,
     ⟨(some 11), none, .load none (.tmp 10), []⟩,
     ⟨(some 12), none, .call false (.const (.func 79 [] [])) [(.tmp 11), (.const (.int .i64 1)), (.const (.int .i64 12))], []⟩,
     ⟨(some 13), none, .move (.tmp 12), []⟩,
     ⟨(some 14), (some (13, true)), .fieldAddr 1 none (.tmp 1), []⟩,
     ⟨(some 15), (some (13, true)), .load none (.tmp 14), []⟩,
     ⟨(some 16), (some (13, true)), .len (.tmp 15), []⟩,
     ⟨(some 17), (some (13, true)), .call false (.const (.func 79 [] [])) [(.tmp 16), (.const (.int .i64 1)), (.const (.int .i64 5))], []⟩,
     ⟨(some 18), none, .pick (.tmp 13) (.tmp 17) (.const (.bool false)), []⟩,
     ⟨(some 19), none, .move (.tmp 18), []⟩,
     ⟨(some 20), (some (19, true)), .fieldAddr 2 none (.tmp 1), []⟩,
     ⟨(some 21), (some (19, true)), .load none (.tmp 20), []⟩,
     ⟨(some 22), (some (19, true)), .len (.tmp 21), []⟩,
     ⟨(some 23), (some (19, true)), .bin .leq (.tmp 22) (.const (.int .i64 6)), []⟩,
     ⟨(some 24), none, .pick (.tmp 19) (.tmp 23) (.const (.bool false)), []⟩,
     ⟨(some 25), none, .move (.tmp 24), []⟩,
     ⟨(some 26), (some (25, true)), .fieldAddr 3 none (.tmp 1), []⟩,
     ⟨(some 27), (some (25, true)), .load none (.tmp 26), []⟩,
     ⟨(some 28), (some (25, true)), .len (.tmp 27), []⟩,
     ⟨(some 29), (some (25, true)), .bin .leq (.tmp 28) (.const (.int .i64 14)), []⟩,
     ⟨(some 30), none, .pick (.tmp 25) (.tmp 29) (.const (.bool false)), []⟩,
     ⟨(some 3), none, .move (.tmp 30), []⟩] [1, 3])
   (.seq (.seq (.region [⟨(some 31), none, .fieldAddr 1 none (.tmp 1), []⟩,
     ⟨(some 32), none, .load none (.tmp 31), []⟩,
     ⟨(some 33), none, .len (.tmp 32), []⟩,
     ⟨(some 34), none, .move (.const (.int .i64 0)), []⟩] [1, 3, 32, 33, 34])
   (.block 0 (c76_l0)))
   (.seq (.seq (.region [⟨(some 44), none, .fieldAddr 2 none (.tmp 1), []⟩,
     ⟨(some 45), none, .load none (.tmp 44), []⟩,
     ⟨(some 46), none, .len (.tmp 45), []⟩,
     ⟨(some 47), none, .move (.const (.int .i64 0)), []⟩] [1, 3, 45, 46, 47])
   (.block 2 (c76_l1)))
   (.seq (.seq (.region [⟨(some 75), none, .fieldAddr 3 none (.tmp 1), []⟩,
     ⟨(some 76), none, .load none (.tmp 75), []⟩,
     ⟨(some 77), none, .len (.tmp 76), []⟩,
     ⟨(some 78), none, .move (.const (.int .i64 0)), []⟩] [1, 3, 76, 77, 78])
   (.block 4 (c76_l2)))
   (.seq (.seq (.region [⟨(some 121), none, .move (.tmp 3), []⟩,
     ⟨(some 122), none, .not (.tmp 121), []⟩] [122])
   (.cond (.tmp 122) (.seq (.region [⟨(some 2), none, .move (.const (.int .i64 20)), []⟩] [2])
    (.ret)) (.skip)))
   (.seq (.region [⟨(some 2), none, .move (.const (.int .i64 0)), []⟩] [2])
   (.ret))))))),
  [.tmp 2]⟩
def c77_l1 : VCode := .loop [2, 4, 5, 6, 16, 17, 22, 23] (.seq (.region [⟨(some 24), none, .bin .lss (.tmp 23) (.tmp 22), []⟩] [2, 4, 5, 6, 16, 17, 22, 23, 24])
        (.seq (.cond (.tmp 24) (.skip) (.exit 2))
        (.seq (.block 3 (.seq (.region [⟨(some 25), none, .move (.tmp 23), []⟩,
           ⟨(some 7), none, .move (.tmp 25), []⟩] [2, 4, 5, 6, 7, 16, 17, 22, 23])
         (.region [⟨(some 26), none, .fieldAddr 5 none (.tmp 5), []⟩,
           ⟨(some 27), none, .load none (.tmp 26), []⟩,
           ⟨(some 28), none, .move (.tmp 6), []⟩,
           ⟨(some 29), none, .move (.tmp 7), []⟩,
           ⟨(some 30), none, .build [.int .i64 0, .int .i64 0] [(0, 1, (.tmp 28)), (1, 1, (.tmp 29))], []⟩,
           ⟨(some 31), none, .fieldAddr 5 none (.tmp 5), []⟩,
           ⟨(some 32), none, .load none (.tmp 31), []⟩,
           ⟨(some 33), none, .mlen (.tmp 32), []⟩,
           ⟨none, none, .mapset true [some .i64, some .i64] (.tmp 27) (.tmp 30) (.tmp 33), []⟩] [2, 4, 5, 6, 16, 17, 22, 23])))
        (.region [⟨(some 34), none, .bin .add (.tmp 23) (.const (.int .i64 1)), []⟩,
          ⟨(some 23), none, .move (.tmp 34), []⟩] [2, 4, 5, 6, 16, 17, 22, 23]))))
def c77_l0 : VCode := .loop [2, 4, 5, 16, 17] (.seq (.region [⟨(some 18), none, .bin .lss (.tmp 17) (.tmp 16), []⟩] [2, 4, 5, 16, 17, 18])
     (.seq (.cond (.tmp 18) (.skip) (.exit 0))
     (.seq (.block 1 (.seq (.region [⟨(some 19), none, .move (.tmp 17), []⟩,
        ⟨(some 6), none, .move (.tmp 19), []⟩] [2, 4, 5, 6, 16, 17])
      (.seq (.region [⟨(some 20), none, .fieldAddr 0 none (.tmp 2), []⟩,
        ⟨(some 21), none, .load none (.tmp 20), []⟩,
        ⟨(some 22), none, .bin .add (.tmp 21) (.const (.int .i64 1)), []⟩,
        ⟨(some 23), none, .move (.const (.int .i64 0)), []⟩] [2, 4, 5, 6, 16, 17, 22, 23])
      (.block 2 (c77_l1)))))
     (.region [⟨(some 35), none, .bin .add (.tmp 17) (.const (.int .i64 1)), []⟩,
       ⟨(some 17), none, .move (.tmp 35), []⟩] [2, 4, 5, 16, 17]))))
/-- remontoir/beat.opened -/
def c77 : VFunc :=
  ⟨37, .seq (.region [⟨(some 2), none, .box (.tmp 0), []⟩,
     ⟨(some 4), none, .alloc [.int .i64 0, .slice 0 [] .nil, .slice 0 [] .nil, .slice 0 [] .nil, .int .i64 0, .nilm], []⟩] [1, 2, 4])
   (.seq (.region [⟨(some 8), none, .load (some 4) (.tmp 2), []⟩,
     ⟨(some 9), none, .move (.tmp 1), []⟩,
     ⟨(some 10), none, .mkmap, [0]⟩,
     ⟨(some 11), none, .build [.int .i64 0, .int .i64 0] [(0, 1, (.const (.int .i64 (-1)))), (1, 1, (.const (.int .i64 0)))], []⟩,
     ⟨none, none, .mapset true [some .i64, some .i64] (.tmp 10) (.tmp 11) (.const (.int .i64 0)), [0]⟩,
     ⟨(some 12), none, .move (.tmp 10), []⟩,
     ⟨(some 13), none, .build [.int .i64 0, .slice 0 [] .nil, .slice 0 [] .nil, .slice 0 [] .nil, .int .i64 0, .nilm] [(0, 4, (.tmp 8)), (4, 1, (.tmp 9)), (5, 1, (.tmp 12))], []⟩,
     ⟨(some 5), none, .alloc [.int .i64 0, .slice 0 [] .nil, .slice 0 [] .nil, .slice 0 [] .nil, .int .i64 0, .nilm], [0]⟩,
     ⟨none, none, .store 6 (.tmp 5) (.tmp 13), []⟩] [2, 4, 5])
   (.seq (.seq (.region [⟨(some 14), none, .fieldAddr 1 none (.tmp 2), []⟩,
     ⟨(some 15), none, .load none (.tmp 14), []⟩,
     ⟨(some 16), none, .len (.tmp 15), []⟩,
     ⟨(some 17), none, .move (.const (.int .i64 0)), []⟩] [2, 4, 5, 16, 17])
   (.block 0 (c77_l0)))
   (.seq (.region [⟨(some 36), none, .load (some 6) (.tmp 5), []⟩,
     ⟨none, none, .store 6 (.tmp 4) (.tmp 36), []⟩] [4])
   (.ret)))),
  [.cell 4 (some 6)]⟩
/-- (remontoir/beat.cellar).can -/
def c78 : VFunc :=
  ⟨12, .seq (.region [⟨(some 1), none, .box (.tmp 0), []⟩,
     ⟨(some 2), none, .move (.const (.bool false)), []⟩] [1])
   (.seq (.region [⟨(some 6), none, .load (some 6) (.tmp 1), []⟩,
     ⟨(some 7), none, .call false (.const (.func 72 [] [])) [], [0]⟩,
     ⟨(some 8), none, .call false (.const (.func 80 [] [])) [(.tmp 6), (.tmp 7)], []⟩,
     ⟨(some 5), none, .move (.tmp 8), []⟩,
     ⟨(some 9), none, .extract (.tmp 5) 0, []⟩,
     ⟨(some 10), none, .extract (.tmp 5) 1, []⟩,
     ⟨(some 3), none, .alloc (List.replicate 66 (.int .i64 0)), [0]⟩,
     ⟨none, none, .store 66 (.tmp 3) (.tmp 9), []⟩,
     ⟨(some 4), none, .move (.tmp 10), []⟩] [4])
   (.seq (.region [⟨(some 11), none, .move (.tmp 4), []⟩,
     ⟨(some 2), none, .move (.tmp 11), []⟩] [2])
   (.ret))),
  [.tmp 2]⟩
/-- remontoir/beat.lies -/
def c79 : VFunc :=
  ⟨15, .seq (.region [⟨(some 6), none, .move (.const (.bool false)), []⟩] [0, 1, 2])
   (.seq (.region [⟨(some 7), none, .move (.tmp 1), []⟩,
     ⟨(some 8), none, .move (.tmp 0), []⟩,
     ⟨(some 9), none, .bin .leq (.tmp 7) (.tmp 8), []⟩,
     ⟨(some 10), none, .move (.tmp 9), []⟩,
     ⟨(some 11), (some (10, true)), .move (.tmp 0), []⟩,
     ⟨(some 12), (some (10, true)), .move (.tmp 2), []⟩,
     ⟨(some 13), (some (10, true)), .bin .leq (.tmp 11) (.tmp 12), []⟩,
     ⟨(some 14), none, .pick (.tmp 10) (.tmp 13) (.const (.bool false)), []⟩,
     ⟨(some 6), none, .move (.tmp 14), []⟩] [6])
   (.ret)),
  [.tmp 6]⟩
def c80_l0 : VCode := .loop [2, 3, 4, 6, 16] (.seq (.region [⟨(some 17), none, .bin .lss (.tmp 16) (.const (.int .i64 66)), []⟩] [2, 3, 4, 6, 16, 17])
     (.seq (.cond (.tmp 17) (.skip) (.exit 0))
     (.seq (.block 1 (.seq (.region [⟨(some 18), none, .move (.tmp 16), []⟩,
        ⟨(some 7), none, .move (.tmp 18), []⟩] [2, 3, 4, 6, 7, 16])
      (.region [⟨(some 19), none, .move (.tmp 7), []⟩,
        ⟨(some 20), none, .idxAddr (some 66) 1 false (.tmp 6) (.tmp 19), []⟩,
        ⟨none, none, .store 1 (.tmp 20) (.const (.int .i64 1099511627776)), []⟩] [2, 3, 4, 6, 16])))
     (.region [⟨(some 21), none, .bin .add (.tmp 16) (.const (.int .i64 1)), []⟩,
       ⟨(some 16), none, .move (.tmp 21), []⟩] [2, 3, 4, 6, 16]))))
def c80_l1 : VCode := .loop [2, 4, 6, 8, 27, 28] (.seq (.region [⟨(some 29), none, .bin .lss (.tmp 28) (.const (.int .i64 3)), []⟩] [2, 4, 6, 8, 27, 28, 29])
     (.seq (.cond (.tmp 29) (.skip) (.exit 2))
     (.seq (.block 3 (.seq (.region [⟨(some 30), none, .idx 3 1 false (.tmp 27) (.tmp 28), []⟩,
        ⟨(some 10), none, .move (.tmp 30), []⟩] [2, 4, 6, 8, 10, 27, 28])
      (.region [⟨(some 31), none, .move (.tmp 8), []⟩,
        ⟨(some 32), none, .move (.tmp 10), []⟩,
        ⟨(some 33), none, .load (some 6) (.tmp 2), []⟩,
        ⟨(some 34), none, .call false (.tmp 32) [(.tmp 33)], []⟩,
        ⟨(some 35), none, .append 5 (.tmp 31) (.tmp 34), []⟩,
        ⟨(some 8), none, .move (.tmp 35), []⟩] [2, 4, 6, 8, 27, 28])))
     (.region [⟨(some 36), none, .bin .add (.tmp 28) (.const (.int .i64 1)), []⟩,
       ⟨(some 28), none, .move (.tmp 36), []⟩] [2, 4, 6, 8, 27, 28]))))
def c80_l3 : VCode := .loop [2, 4, 6, 8, 11, 40, 41, 44, 45, 46] (.seq (.region [⟨(some 47), none, .bin .lss (.tmp 46) (.tmp 45), []⟩] [2, 4, 6, 8, 11, 40, 41, 44, 45, 46, 47])
        (.seq (.cond (.tmp 47) (.skip) (.exit 6))
        (.seq (.block 7 (.seq (.region [⟨(some 48), none, .idxAddr none 5 true (.tmp 44) (.tmp 46), []⟩,
           ⟨(some 49), none, .load (some 5) (.tmp 48), []⟩,
           ⟨(some 13), none, .alloc [.int .i64 0, .int .i64 0, .int .i64 0, .int .i64 0, .int .i64 0], []⟩,
           ⟨none, none, .store 5 (.tmp 13) (.tmp 49), []⟩] [2, 4, 6, 8, 11, 13, 40, 41, 44, 45, 46])
         (.seq (.region [⟨(some 50), none, .fieldAddr 5 none (.tmp 2), []⟩,
           ⟨(some 51), none, .load none (.tmp 50), []⟩,
           ⟨(some 52), none, .fieldAddr 2 (some 2) (.tmp 13), []⟩,
           ⟨(some 53), none, .load (some 2) (.tmp 52), []⟩,
           ⟨(some 54), none, .lookup true [some .i64, some .i64] (.int .i64 0) false (.tmp 51) (.tmp 53), []⟩,
           ⟨(some 55), none, .fieldAddr 5 none (.tmp 2), []⟩,
           ⟨(some 56), none, .load none (.tmp 55), []⟩,
           ⟨(some 57), none, .fieldAddr 0 (some 2) (.tmp 13), []⟩,
           ⟨(some 58), none, .load (some 2) (.tmp 57), []⟩,
           ⟨(some 59), none, .lookup true [some .i64, some .i64] (.int .i64 0) false (.tmp 56) (.tmp 58), []⟩,
           ⟨(some 14), none, .move (.tmp 54), []⟩,
           ⟨(some 15), none, .move (.tmp 59), []⟩] [2, 4, 6, 8, 11, 13, 14, 15, 40, 41, 44, 45, 46])
         (.seq (.seq (.region [⟨(some 60), none, .move (.tmp 14), []⟩,
           ⟨(some 61), none, .idxAddr (some 66) 1 false (.tmp 6) (.tmp 60), []⟩,
           ⟨(some 62), none, .load none (.tmp 61), []⟩,
           ⟨(some 63), none, .bin .eql (.tmp 62) (.const (.int .i64 1099511627776)), []⟩] [2, 4, 6, 8, 11, 13, 14, 15, 40, 41, 44, 45, 46, 63])
         (.cond (.tmp 63) (.exit 7) (.skip)))
         (.region [⟨(some 64), none, .move (.tmp 15), []⟩,
           ⟨(some 65), none, .move (.tmp 15), []⟩,
           ⟨(some 66), none, .idxAddr (some 66) 1 false (.tmp 6) (.tmp 65), []⟩,
           ⟨(some 67), none, .load none (.tmp 66), []⟩,
           ⟨(some 68), none, .move (.tmp 14), []⟩,
           ⟨(some 69), none, .idxAddr (some 66) 1 false (.tmp 6) (.tmp 68), []⟩,
           ⟨(some 70), none, .load none (.tmp 69), []⟩,
           ⟨(some 71), none, .fieldAddr 4 none (.tmp 13), []⟩,
           ⟨(some 72), none, .load none (.tmp 71), []⟩,
           ⟨(some 73), none, .bin .add (.tmp 70) (.tmp 72), []⟩,
           ⟨(some 74), none, .min [(.tmp 67), (.tmp 73)], []⟩,
           ⟨(some 75), none, .idxAddr (some 66) 1 false (.tmp 6) (.tmp 64), []⟩,
           ⟨none, none, .store 1 (.tmp 75) (.tmp 74), []⟩] [2, 4, 6, 8, 11, 40, 41, 44, 45, 46])))))
        (.region [⟨(some 76), none, .bin .add (.tmp 46) (.const (.int .i64 1)), []⟩,
          ⟨(some 46), none, .move (.tmp 76), []⟩] [2, 4, 6, 8, 11, 40, 41, 44, 45, 46]))))
def c80_l2 : VCode := .loop [2, 4, 6, 8, 40, 41] (.seq (.region [⟨(some 42), none, .bin .lss (.tmp 41) (.tmp 40), []⟩] [2, 4, 6, 8, 40, 41, 42])
     (.seq (.cond (.tmp 42) (.skip) (.exit 4))
     (.seq (.block 5 (.seq (.region [⟨(some 43), none, .load (some 66) (.tmp 6), []⟩,
        ⟨(some 11), none, .alloc (List.replicate 66 (.int .i64 0)), []⟩,
        ⟨none, none, .store 66 (.tmp 11) (.tmp 43), []⟩] [2, 4, 6, 8, 11, 40, 41])
      (.seq (.skip)
      (.seq (.seq (.region [⟨(some 44), none, .move (.tmp 8), []⟩,
        ⟨(some 45), none, .len (.tmp 44), []⟩,
        ⟨(some 46), none, .move (.const (.int .i64 0)), []⟩] [2, 4, 6, 8, 11, 40, 41, 44, 45, 46])
      (.block 6 (c80_l3)))
      (.seq (.region [⟨(some 77), none, .load (some 66) (.tmp 6), []⟩,
        ⟨(some 78), none, .load (some 66) (.tmp 11), []⟩,
        ⟨(some 79), none, .eql true (List.replicate 66 (some .i64)) false (.tmp 77) (.tmp 78), []⟩] [2, 4, 6, 8, 40, 41, 79])
      (.cond (.tmp 79) (.seq (.region [⟨(some 80), none, .load (some 66) (.tmp 6), []⟩,
         ⟨none, none, .store 66 (.tmp 4) (.tmp 80), []⟩,
         ⟨(some 5), none, .move (.const (.bool true)), []⟩] [4, 5])
       (.ret)) (.skip)))))))
     (.region [⟨(some 81), none, .bin .add (.tmp 41) (.const (.int .i64 1)), []⟩,
       ⟨(some 41), none, .move (.tmp 81), []⟩] [2, 4, 6, 8, 40, 41]))))
/-- (remontoir/beat.cellar).above -/
def c80 : VFunc :=
  ⟨83, .seq (.region [⟨(some 2), none, .box (.tmp 0), []⟩,
     ⟨(some 3), none, .box (.tmp 1), []⟩,
     ⟨(some 4), none, .alloc (List.replicate 66 (.int .i64 0)), []⟩,
     ⟨(some 5), none, .move (.const (.bool false)), []⟩] [2, 3, 4])
   (.seq (.region [⟨(some 6), none, .alloc (List.replicate 66 (.int .i64 0)), []⟩] [2, 3, 4, 6])
   (.seq (.seq (.region [⟨(some 16), none, .move (.const (.int .i64 0)), []⟩] [2, 3, 4, 6, 16])
   (.block 0 (c80_l0)))
   (.seq (.region [⟨(some 22), none, .fieldAddr 5 none (.tmp 2), []⟩,
     ⟨(some 23), none, .load none (.tmp 22), []⟩,
     ⟨(some 24), none, .load (some 2) (.tmp 3), []⟩,
     ⟨(some 25), none, .lookup true [some .i64, some .i64] (.int .i64 0) false (.tmp 23) (.tmp 24), []⟩,
     ⟨(some 26), none, .idxAddr (some 66) 1 false (.tmp 6) (.tmp 25), []⟩,
     ⟨none, none, .store 1 (.tmp 26) (.const (.int .i64 0)), []⟩] [2, 4, 6])
   (.seq (.region [⟨(some 8), none, .move (.const (.slice 0 [] .nil)), []⟩] [2, 4, 6, 8])
   (.seq (.seq (.region [⟨(some 27), none, .load (some 3) (.glob 3), []⟩,
     ⟨(some 28), none, .move (.const (.int .i64 0)), []⟩] [2, 4, 6, 8, 27, 28])
   (.block 2 (c80_l1)))
   (.seq (.seq (.region [⟨(some 37), none, .fieldAddr 5 none (.tmp 2), []⟩,
     ⟨(some 38), none, .load none (.tmp 37), []⟩,
     ⟨(some 39), none, .mlen (.tmp 38), []⟩,
     ⟨(some 40), none, .bin .add (.tmp 39) (.const (.int .i64 1)), []⟩,
     ⟨(some 41), none, .move (.const (.int .i64 0)), []⟩] [2, 4, 6, 8, 40, 41])
   (.block 4 (c80_l2)))
   (.seq (.region [⟨(some 82), none, .load (some 66) (.tmp 6), []⟩,
     ⟨none, none, .store 66 (.tmp 4) (.tmp 82), []⟩,
     ⟨(some 5), none, .move (.const (.bool false)), []⟩] [4, 5])
   (.ret)))))))),
  [.cell 4 (some 66), .tmp 5]⟩
/-- slices.ContainsFunc[[]int,int] -/
def c84 : VFunc :=
  ⟨9, .seq (.region [⟨(some 4), none, .move (.const (.bool false)), []⟩] [0, 1])
   (.seq (.region [⟨(some 5), none, .move (.tmp 0), []⟩,
     ⟨(some 6), none, .move (.tmp 1), []⟩,
     ⟨(some 7), none, .call false (.const (.func 113 [] [])) [(.tmp 5), (.tmp 6)], []⟩,
     ⟨(some 8), none, .bin .geq (.tmp 7) (.const (.int .i64 0)), []⟩,
     ⟨(some 4), none, .move (.tmp 8), []⟩] [4])
   (.ret)),
  [.tmp 4]⟩
/-- remontoir/voice.areWords$1 -/
def c85 : VFunc :=
  ⟨6, .seq (.region [⟨(some 2), none, .move (.const (.bool false)), []⟩] [0])
   (.seq (.region [⟨(some 3), none, .move (.tmp 0), []⟩,
     ⟨(some 4), none, .call false (.const (.func 46 [] [])) [(.tmp 3), (.const (.int .i64 0)), (.const (.int .i64 299))], []⟩,
     ⟨(some 5), none, .not (.tmp 4), []⟩,
     ⟨(some 2), none, .move (.tmp 5), []⟩] [2])
   (.ret)),
  [.tmp 2]⟩
def c99_l0 : VCode := .loop [0, 1, 7, 8, 9] (.seq (.region [⟨(some 10), none, .bin .lss (.tmp 9) (.tmp 8), []⟩] [0, 1, 7, 8, 9, 10])
     (.seq (.cond (.tmp 10) (.skip) (.exit 0))
     (.seq (.block 1 (.seq (.region [⟨(some 11), none, .move (.tmp 9), []⟩,
        ⟨(some 12), none, .idxAddr none 3 true (.tmp 7) (.tmp 9), []⟩,
        ⟨(some 13), none, .load (some 3) (.tmp 12), []⟩,
        ⟨(some 4), none, .alloc [.int .i64 0, .int .i64 0, .int .i64 0], []⟩,
        ⟨(some 3), none, .move (.tmp 11), []⟩,
        ⟨none, none, .store 3 (.tmp 4) (.tmp 13), []⟩] [0, 1, 3, 4, 7, 8, 9])
      (.seq (.region [⟨(some 14), none, .fieldAddr 6 none (.tmp 1), []⟩,
        ⟨(some 15), none, .load none (.tmp 14), []⟩,
        ⟨(some 16), none, .move (.tmp 3), []⟩,
        ⟨(some 17), none, .idxAddr none 4 true (.tmp 15) (.tmp 16), []⟩,
        ⟨(some 18), none, .load (some 4) (.tmp 17), []⟩,
        ⟨(some 19), none, .load (some 3) (.tmp 4), []⟩,
        ⟨(some 20), none, .build [.int .i64 0, .int .i64 0, .int .i64 0, .int .i64 0, .int .i64 0, .int .i64 0, .int .i64 0] [(0, 4, (.tmp 18)), (4, 3, (.tmp 19))], []⟩,
        ⟨(some 5), none, .alloc [.int .i64 0, .int .i64 0, .int .i64 0, .int .i64 0, .int .i64 0, .int .i64 0, .int .i64 0], [1, 4, 5]⟩,
        ⟨none, none, .store 7 (.tmp 5) (.tmp 20), []⟩] [0, 1, 3, 5, 7, 8, 9])
      (.seq (.region [⟨(some 21), none, .load (some 7) (.tmp 5), []⟩,
        ⟨(some 22), none, .fieldAddr 0 (some 4) (.tmp 5), []⟩,
        ⟨(some 23), none, .load (some 4) (.tmp 22), []⟩,
        ⟨(some 24), none, .fieldAddr 0 (some 4) (.tmp 5), []⟩,
        ⟨(some 25), none, .load (some 4) (.tmp 24), []⟩,
        ⟨(some 26), none, .call false (.const (.func 101 [] [])) [(.tmp 25)], [0, 2]⟩,
        ⟨(some 27), none, .build [.int .i64 0, .int .i64 0, .int .i64 0, .int .i64 0, .int .i64 0, .int .i64 0, .int .i64 0] [(0, 4, (.tmp 23)), (4, 3, (.tmp 26))], []⟩,
        ⟨(some 28), none, .eql true [some .i64, some .i64, some .i64, some .i64, some .i64, some .i64, some .i64] true (.tmp 21) (.tmp 27), []⟩,
        ⟨(some 29), none, .move (.tmp 28), []⟩,
        ⟨(some 30), (some (29, true)), .move (.tmp 0), []⟩,
        ⟨(some 31), (some (29, true)), .move (.tmp 3), []⟩,
        ⟨(some 32), (some (29, true)), .load (some 7) (.tmp 5), []⟩,
        ⟨(some 33), (some (29, true)), .call false (.tmp 30) [(.tmp 31), (.tmp 32)], []⟩,
        ⟨(some 34), (some (29, true)), .not (.tmp 33), []⟩,
        ⟨(some 35), none, .pick (.tmp 29) (.tmp 34) (.const (.bool false)), []⟩] [0, 1, 7, 8, 9, 35])
      (.cond (.tmp 35) (.ret) (.skip))))))
     (.region [⟨(some 36), none, .bin .add (.tmp 9) (.const (.int .i64 1)), []⟩,
       ⟨(some 9), none, .move (.tmp 36), []⟩] [0, 1, 7, 8, 9]))))
/-- (remontoir/caller.hour).joined$1 -/
def c99 : VFunc :=
  ⟨37, .seq (.region [⟨(some 6), none, .load (some 8) (.tmp 1), []⟩,
     ⟨(some 7), none, .call false (.const (.func 100 [] [])) [(.tmp 6)], []⟩,
     ⟨(some 8), none, .len (.tmp 7), []⟩,
     ⟨(some 9), none, .move (.const (.int .i64 0)), []⟩] [0, 1, 7, 8, 9])
   (.block 0 (c99_l0)),
  []⟩
def c100_l1 : VCode := .loop [1, 3, 4, 6, 7, 11, 12, 13, 45, 46] (.seq (.region [⟨(some 47), none, .bin .lss (.tmp 46) (.tmp 45), []⟩] [1, 3, 4, 6, 7, 11, 12, 13, 45, 46, 47])
        (.seq (.cond (.tmp 47) (.skip) (.exit 2))
        (.seq (.block 3 (.seq (.region [⟨(some 48), none, .move (.tmp 46), []⟩,
           ⟨(some 8), none, .move (.tmp 48), []⟩] [1, 3, 4, 6, 7, 8, 11, 12, 13, 45, 46])
         (.seq (.region [⟨(some 49), none, .move (.tmp 8), []⟩,
           ⟨(some 50), none, .idxAddr (some 20) 1 false (.tmp 3) (.tmp 49), []⟩,
           ⟨(some 51), none, .load none (.tmp 50), []⟩,
           ⟨(some 52), none, .move (.tmp 7), []⟩,
           ⟨(some 53), none, .bin .leq (.tmp 51) (.tmp 52), []⟩] [1, 3, 4, 6, 7, 8, 11, 12, 13, 45, 46, 53])
         (.cond (.tmp 53) (.seq (.region [⟨(some 54), none, .move (.tmp 8), []⟩,
            ⟨(some 55), none, .load (some 8) (.tmp 1), []⟩,
            ⟨(some 56), none, .load (some 4) (.tmp 6), []⟩,
            ⟨(some 57), none, .move (.tmp 7), []⟩,
            ⟨(some 58), none, .call false (.const (.func 124 [] [])) [(.tmp 55), (.tmp 56), (.tmp 57)], []⟩,
            ⟨(some 59), none, .idxAddr (some 20) 1 false (.tmp 3) (.tmp 54), []⟩,
            ⟨none, none, .store 1 (.tmp 59) (.tmp 58), []⟩] [1, 3, 4, 7, 8, 11, 12, 13])
          (.seq (.region [⟨(some 60), none, .move (.tmp 4), []⟩,
            ⟨(some 61), none, .move (.tmp 7), []⟩,
            ⟨(some 62), none, .move (.tmp 8), []⟩,
            ⟨(some 63), none, .idxAddr (some 20) 1 false (.tmp 3) (.tmp 62), []⟩,
            ⟨(some 64), none, .load none (.tmp 63), []⟩,
            ⟨(some 65), none, .move (.tmp 8), []⟩,
            ⟨(some 66), none, .build [.int .i64 0, .int .i64 0, .int .i64 0] [(0, 1, (.tmp 61)), (1, 1, (.tmp 64)), (2, 1, (.tmp 65))], []⟩,
            ⟨(some 67), none, .mkslice 3 [(.tmp 66)], []⟩,
            ⟨(some 68), none, .append 3 (.tmp 60) (.tmp 67), []⟩,
            ⟨(some 4), none, .move (.tmp 68), []⟩] [1, 3, 4, 11, 12, 13])
          (.exit 1))) (.skip)))))
        (.region [⟨(some 69), none, .bin .add (.tmp 46) (.const (.int .i64 1)), []⟩,
          ⟨(some 46), none, .move (.tmp 69), []⟩] [1, 3, 4, 6, 7, 11, 12, 13, 45, 46]))))
def c100_l0 : VCode := .loop [1, 3, 4, 11, 12, 13] (.seq (.region [⟨(some 14), none, .bin .lss (.tmp 13) (.tmp 12), []⟩] [1, 3, 4, 11, 12, 13, 14])
     (.seq (.cond (.tmp 14) (.skip) (.exit 0))
     (.seq (.block 1 (.seq (.region [⟨(some 15), none, .idxAddr none 4 true (.tmp 11) (.tmp 13), []⟩,
        ⟨(some 16), none, .load (some 4) (.tmp 15), []⟩,
        ⟨(some 6), none, .alloc [.int .i64 0, .int .i64 0, .int .i64 0, .int .i64 0], []⟩,
        ⟨none, none, .store 4 (.tmp 6) (.tmp 16), []⟩] [1, 3, 4, 6, 11, 12, 13])
      (.seq (.region [⟨(some 17), none, .fieldAddr 0 none (.tmp 6), []⟩,
        ⟨(some 18), none, .load none (.tmp 17), []⟩,
        ⟨(some 7), none, .move (.tmp 18), []⟩] [1, 3, 4, 6, 7, 11, 12, 13])
      (.seq (.seq (.region [⟨(some 19), none, .load (some 20) (.tmp 3), []⟩,
        ⟨(some 20), none, .call false (.const (.func 122 [] [])) [], [0]⟩,
        ⟨(some 21), none, .eql true (List.replicate 20 (some .i64)) true (.tmp 19) (.tmp 20), []⟩] [1, 3, 4, 6, 7, 11, 12, 13, 21])
      (.cond (.tmp 21) (.region [⟨(some 22), none, .move (.tmp 7), []⟩,
         ⟨(some 23), none, .fieldAddr 7 none (.tmp 1), []⟩,
         ⟨(some 24), none, .load none (.tmp 23), []⟩,
         ⟨(some 25), none, .slca 20 1 (.tmp 3) (some (.tmp 24)), []⟩,
         ⟨(some 26), none, .call false (.const (.func 123 [] [])) [(.tmp 25)], []⟩,
         ⟨(some 27), none, .max [(.tmp 22), (.tmp 26)], []⟩,
         ⟨(some 7), none, .move (.tmp 27), []⟩] [1, 3, 4, 6, 7, 11, 12, 13]) (.skip)))
      (.seq (.seq (.region [⟨(some 28), none, .move (.tmp 7), []⟩,
        ⟨(some 29), none, .fieldAddr 0 none (.tmp 6), []⟩,
        ⟨(some 30), none, .load none (.tmp 29), []⟩,
        ⟨(some 31), none, .fieldAddr 1 none (.tmp 6), []⟩,
        ⟨(some 32), none, .load none (.tmp 31), []⟩,
        ⟨(some 33), none, .bin .add (.tmp 30) (.tmp 32), []⟩,
        ⟨(some 34), none, .bin .gtr (.tmp 28) (.tmp 33), []⟩] [1, 3, 4, 6, 7, 11, 12, 13, 34])
      (.cond (.tmp 34) (.seq (.region [⟨(some 35), none, .move (.tmp 4), []⟩,
         ⟨(some 36), none, .fieldAddr 0 none (.tmp 6), []⟩,
         ⟨(some 37), none, .load none (.tmp 36), []⟩,
         ⟨(some 38), none, .fieldAddr 1 none (.tmp 6), []⟩,
         ⟨(some 39), none, .load none (.tmp 38), []⟩,
         ⟨(some 40), none, .bin .add (.tmp 37) (.tmp 39), []⟩,
         ⟨(some 41), none, .build [.int .i64 0, .int .i64 0, .int .i64 0] [(0, 1, (.const (.int .i64 (-1)))), (1, 1, (.tmp 40)), (2, 1, (.const (.int .i64 (-1))))], []⟩,
         ⟨(some 42), none, .mkslice 3 [(.tmp 41)], []⟩,
         ⟨(some 43), none, .append 3 (.tmp 35) (.tmp 42), []⟩,
         ⟨(some 4), none, .move (.tmp 43), []⟩] [1, 3, 4, 11, 12, 13])
       (.exit 1)) (.skip)))
      (.seq (.region [⟨(some 44), none, .fieldAddr 7 none (.tmp 1), []⟩,
        ⟨(some 45), none, .load none (.tmp 44), []⟩,
        ⟨(some 46), none, .move (.const (.int .i64 0)), []⟩] [1, 3, 4, 6, 7, 11, 12, 13, 45, 46])
      (.block 2 (c100_l1))))))))
     (.region [⟨(some 70), none, .bin .add (.tmp 13) (.const (.int .i64 1)), []⟩,
       ⟨(some 13), none, .move (.tmp 70), []⟩] [1, 3, 4, 11, 12, 13]))))
/-- (remontoir/caller.hour).serve -/
def c100 : VFunc :=
  ⟨72, .seq (.region [⟨(some 1), none, .box (.tmp 0), []⟩,
     ⟨(some 2), none, .move (.const (.slice 0 [] .nil)), []⟩] [1])
   (.seq (.region [⟨(some 9), none, .call false (.const (.func 122 [] [])) [], []⟩,
     ⟨(some 3), none, .alloc (List.replicate 20 (.int .i64 0)), []⟩,
     ⟨none, none, .store 20 (.tmp 3) (.tmp 9), []⟩] [1, 3])
   (.seq (.region [⟨(some 4), none, .move (.const (.slice 0 [] .nil)), []⟩] [1, 3, 4])
   (.seq (.skip)
   (.seq (.seq (.region [⟨(some 10), none, .fieldAddr 6 none (.tmp 1), []⟩,
     ⟨(some 11), none, .load none (.tmp 10), []⟩,
     ⟨(some 12), none, .len (.tmp 11), []⟩,
     ⟨(some 13), none, .move (.const (.int .i64 0)), []⟩] [1, 3, 4, 11, 12, 13])
   (.block 0 (c100_l0)))
   (.seq (.region [⟨(some 71), none, .move (.tmp 4), []⟩,
     ⟨(some 2), none, .move (.tmp 71), []⟩] [2])
   (.ret)))))),
  [.tmp 2]⟩
/-- remontoir/caller.given -/
def c101 : VFunc :=
  ⟨9, .seq (.region [⟨(some 1), none, .box (.tmp 0), []⟩,
     ⟨(some 2), none, .alloc [.int .i64 0, .int .i64 0, .int .i64 0], []⟩] [1, 2])
   (.seq (.region [⟨(some 3), none, .fieldAddr 0 none (.tmp 1), []⟩,
     ⟨(some 4), none, .load none (.tmp 3), []⟩,
     ⟨(some 5), none, .fieldAddr 1 none (.tmp 1), []⟩,
     ⟨(some 6), none, .load none (.tmp 5), []⟩,
     ⟨(some 7), none, .bin .add (.tmp 4) (.tmp 6), []⟩,
     ⟨(some 8), none, .build [.int .i64 0, .int .i64 0, .int .i64 0] [(0, 1, (.const (.int .i64 (-1)))), (1, 1, (.tmp 7)), (2, 1, (.const (.int .i64 (-1))))], []⟩,
     ⟨none, none, .store 3 (.tmp 2) (.tmp 8), []⟩] [2])
   (.ret)),
  [.cell 2 (some 3)]⟩
/-- (remontoir/voice.book).next -/
def c103 : VFunc :=
  ⟨8, .seq (.region [⟨(some 3), none, .box (.tmp 0), []⟩,
     ⟨(some 4), none, .box (.tmp 1), []⟩,
     ⟨(some 5), none, .box (.tmp 2), []⟩,
     ⟨(some 6), none, .move (.const (.nilf)), []⟩] [3, 4, 5])
   (.seq (.region [⟨(some 7), none, .mkfunc 127 [] [(.tmp 3), (.tmp 5), (.tmp 4)], []⟩,
     ⟨(some 6), none, .move (.tmp 7), []⟩] [6])
   (.ret)),
  [.tmp 6]⟩
def c106_l0 : VCode := .loop [0, 1, 2, 3, 4, 10, 11, 12] (.seq (.region [⟨(some 13), none, .bin .lss (.tmp 12) (.tmp 11), []⟩] [0, 1, 2, 3, 4, 10, 11, 12, 13])
     (.seq (.cond (.tmp 13) (.skip) (.exit 0))
     (.seq (.block 1 (.seq (.region [⟨(some 14), none, .move (.tmp 12), []⟩,
        ⟨(some 15), none, .idxAddr none 5 true (.tmp 10) (.tmp 12), []⟩,
        ⟨(some 16), none, .load (some 5) (.tmp 15), []⟩,
        ⟨(some 7), none, .alloc [.int .i64 0, .int .i64 0, .int .i64 0, .int .i64 0, .int .i64 0], []⟩,
        ⟨(some 6), none, .move (.tmp 14), []⟩,
        ⟨none, none, .store 5 (.tmp 7) (.tmp 16), []⟩] [0, 1, 2, 3, 4, 6, 7, 10, 11, 12])
      (.seq (.seq (.region [⟨(some 17), none, .load none (.tmp 2), []⟩,
        ⟨(some 18), none, .move (.tmp 6), []⟩,
        ⟨(some 19), none, .bin .shr (.tmp 17) (.tmp 18), []⟩,
        ⟨(some 20), none, .bin .and (.tmp 19) (.const (.int .i64 1)), []⟩,
        ⟨(some 21), none, .bin .eql (.tmp 20) (.const (.int .i64 0)), []⟩,
        ⟨(some 22), none, .move (.tmp 21), []⟩,
        ⟨(some 23), (some (22, false)), .fieldAddr 0 none (.tmp 7), []⟩,
        ⟨(some 24), (some (22, false)), .load none (.tmp 23), []⟩,
        ⟨(some 25), (some (22, false)), .fieldAddr 1 none (.tmp 7), []⟩,
        ⟨(some 26), (some (22, false)), .load none (.tmp 25), []⟩,
        ⟨(some 27), (some (22, false)), .bin .add (.tmp 24) (.tmp 26), []⟩,
        ⟨(some 28), (some (22, false)), .load none (.tmp 3), []⟩,
        ⟨(some 29), (some (22, false)), .bin .gtr (.tmp 27) (.tmp 28), []⟩,
        ⟨(some 30), none, .pick (.tmp 22) (.const (.bool true)) (.tmp 29), []⟩,
        ⟨(some 31), none, .move (.tmp 30), []⟩,
        ⟨(some 32), (some (31, false)), .load none (.tmp 4), []⟩,
        ⟨(some 33), (some (31, false)), .idxAddr (some 2) 1 false (.glob 2) (.tmp 32), []⟩,
        ⟨(some 34), (some (31, false)), .load none (.tmp 33), []⟩,
        ⟨(some 35), (some (31, false)), .fieldAddr 0 (some 3) (.tmp 1), []⟩,
        ⟨(some 36), (some (31, false)), .load (some 3) (.tmp 35), []⟩,
        ⟨(some 37), (some (31, false)), .move (.tmp 6), []⟩,
        ⟨(some 38), (some (31, false)), .call false (.const (.func 32 [] [])) [(.tmp 36), (.tmp 37)], [15, 17]⟩,
        ⟨(some 39), (some (31, false)), .call false (.tmp 34) [(.tmp 38)], []⟩,
        ⟨(some 40), (some (31, false)), .bin .eql (.tmp 39) (.const (.int .i64 0)), []⟩,
        ⟨(some 41), none, .pick (.tmp 31) (.const (.bool true)) (.tmp 40), []⟩] [0, 1, 2, 3, 4, 6, 10, 11, 12, 41])
      (.cond (.tmp 41) (.exit 1) (.skip)))
      (.seq (.region [⟨(some 42), none, .move (.tmp 0), []⟩,
        ⟨(some 43), none, .move (.tmp 6), []⟩,
        ⟨(some 44), none, .load none (.tmp 3), []⟩,
        ⟨(some 45), none, .load none (.tmp 4), []⟩,
        ⟨(some 46), none, .idxAddr (some 2) 1 false (.glob 2) (.tmp 45), []⟩,
        ⟨(some 47), none, .load none (.tmp 46), []⟩,
        ⟨(some 48), none, .fieldAddr 0 (some 3) (.tmp 1), []⟩,
        ⟨(some 49), none, .load (some 3) (.tmp 48), []⟩,
        ⟨(some 50), none, .move (.tmp 6), []⟩,
        ⟨(some 51), none, .call false (.const (.func 32 [] [])) [(.tmp 49), (.tmp 50)], [2, 3, 5]⟩,
        ⟨(some 52), none, .call false (.tmp 47) [(.tmp 51)], [2]⟩,
        ⟨(some 53), none, .bin .add (.tmp 44) (.tmp 52), []⟩,
        ⟨(some 54), none, .call false (.tmp 42) [(.tmp 43), (.tmp 53)], []⟩,
        ⟨(some 55), none, .not (.tmp 54), []⟩] [0, 1, 2, 3, 4, 10, 11, 12, 55])
      (.cond (.tmp 55) (.ret) (.skip))))))
     (.region [⟨(some 56), none, .bin .add (.tmp 12) (.const (.int .i64 1)), []⟩,
       ⟨(some 12), none, .move (.tmp 56), []⟩] [0, 1, 2, 3, 4, 10, 11, 12]))))
/-- (remontoir/spare.store).follow$1 -/
def c106 : VFunc :=
  ⟨57, .seq (.skip)
   (.seq (.region [⟨(some 8), none, .fieldAddr 0 (some 3) (.tmp 1), []⟩,
     ⟨(some 9), none, .fieldAddr 2 none (.tmp 8), []⟩,
     ⟨(some 10), none, .load none (.tmp 9), []⟩,
     ⟨(some 11), none, .len (.tmp 10), []⟩,
     ⟨(some 12), none, .move (.const (.int .i64 0)), []⟩] [0, 1, 2, 3, 4, 10, 11, 12])
   (.block 0 (c106_l0))),
  []⟩
/-- remontoir/spare.low -/
def c107 : VFunc :=
  ⟨2, .seq (.region [⟨(some 0), none, .alloc [.nilf], []⟩] [0])
   (.seq (.region [⟨(some 1), none, .build [.nilf] [(0, 1, (.const (.func 130 [] [])))], []⟩,
     ⟨none, none, .store 1 (.tmp 0) (.tmp 1), []⟩] [0])
   (.ret)),
  [.cell 0 (some 1)]⟩
def c108_a0 : VCode := .region [⟨(some 4), none, .move (.tmp 10), []⟩] [3, 4]
def c108_b0 : VCode := .block 1 (.region [⟨(some 12), none, .load none (.tmp 3), []⟩,
         ⟨(some 13), none, .move (.tmp 4), []⟩,
         ⟨none, none, .mapset false [some .i64] (.tmp 12) (.tmp 13) (.const (.bool true)), []⟩] [])
def c108_l0 : VCode := .loop [3, 5, 16, 17] (.seq (.region [⟨(some 18), none, .bin .lss (.tmp 17) (.tmp 16), []⟩] [3, 5, 16, 17, 18])
     (.seq (.cond (.tmp 18) (.skip) (.exit 2))
     (.seq (.block 3 (.seq (.region [⟨(some 19), none, .move (.tmp 17), []⟩,
        ⟨(some 6), none, .move (.tmp 19), []⟩] [3, 5, 6, 16, 17])
      (.seq (.region [⟨(some 20), none, .load none (.tmp 3), []⟩,
        ⟨(some 21), none, .move (.tmp 6), []⟩,
        ⟨(some 22), none, .lookup false [some .i64] (.bool false) false (.tmp 20) (.tmp 21), []⟩,
        ⟨(some 23), none, .not (.tmp 22), []⟩] [3, 5, 6, 16, 17, 23])
      (.cond (.tmp 23) (.region [⟨(some 24), none, .move (.tmp 5), []⟩,
         ⟨(some 25), none, .move (.tmp 6), []⟩,
         ⟨(some 26), none, .mkslice 1 [(.tmp 25)], []⟩,
         ⟨(some 27), none, .append 1 (.tmp 24) (.tmp 26), []⟩,
         ⟨(some 5), none, .move (.tmp 27), []⟩] [3, 5, 16, 17]) (.skip)))))
     (.region [⟨(some 28), none, .bin .add (.tmp 17) (.const (.int .i64 1)), []⟩,
       ⟨(some 17), none, .move (.tmp 28), []⟩] [3, 5, 16, 17]))))
/-- (remontoir/caller.hour).lost -/
def c108 : VFunc :=
  ⟨30, .seq (.region [⟨(some 1), none, .box (.tmp 0), []⟩,
     ⟨(some 2), none, .move (.const (.slice 0 [] .nil)), []⟩] [1, 2])
   (.seq (.region [⟨(some 7), none, .mkmap, []⟩,
     ⟨(some 3), none, .alloc [.nilm], []⟩,
     ⟨none, none, .store 1 (.tmp 3) (.tmp 7), []⟩] [1, 2, 3])
   (.seq (.seq (.region [⟨(some 8), none, .load (some 8) (.tmp 1), []⟩,
     ⟨(some 9), none, .call false (.const (.func 60 [] [])) [(.tmp 8)], []⟩] [1, 2, 3, 9])
   (.block 0 (.rangeFunc (.tmp 9) [10, 11] c108_a0
     c108_b0 [3])))
   (.seq (.region [⟨(some 5), none, .move (.const (.slice 0 [] .nil)), []⟩] [1, 3, 5])
   (.seq (.seq (.region [⟨(some 14), none, .fieldAddr 6 none (.tmp 1), []⟩,
     ⟨(some 15), none, .load none (.tmp 14), []⟩,
     ⟨(some 16), none, .len (.tmp 15), []⟩,
     ⟨(some 17), none, .move (.const (.int .i64 0)), []⟩] [3, 5, 16, 17])
   (.block 2 (c108_l0)))
   (.seq (.region [⟨(some 29), none, .move (.tmp 5), []⟩,
     ⟨(some 2), none, .move (.tmp 29), []⟩] [2])
   (.ret)))))),
  [.tmp 2]⟩
/-- remontoir/voice.fewest -/
def c109 : VFunc :=
  ⟨2, .seq (.region [⟨(some 0), none, .alloc [.nilf], []⟩] [0])
   (.seq (.region [⟨(some 1), none, .build [.nilf] [(0, 1, (.const (.func 131 [] [])))], []⟩,
     ⟨none, none, .store 1 (.tmp 0) (.tmp 1), []⟩] [0])
   (.ret)),
  [.cell 0 (some 1)]⟩
def c110_a0 : VCode := .region [⟨(some 12), none, .move (.tmp 29), []⟩] [2, 4, 5, 6, 11, 12]
def c110_b0 : VCode := .block 1 (.seq (.region [⟨(some 31), none, .load none (.tmp 4), []⟩,
         ⟨(some 32), none, .load none (.tmp 6), []⟩,
         ⟨(some 33), none, .fieldAddr 0 (some 6) (.tmp 2), []⟩,
         ⟨(some 34), none, .fieldAddr 1 none (.tmp 33), []⟩,
         ⟨(some 35), none, .load none (.tmp 34), []⟩,
         ⟨(some 36), none, .move (.tmp 12), []⟩,
         ⟨(some 37), none, .idxAddr none 4 true (.tmp 35) (.tmp 36), []⟩,
         ⟨(some 38), none, .fieldAddr 0 none (.tmp 37), []⟩,
         ⟨(some 39), none, .load none (.tmp 38), []⟩,
         ⟨(some 40), none, .len (.tmp 39), []⟩,
         ⟨(some 41), none, .bin .add (.tmp 32) (.tmp 40), []⟩,
         ⟨(some 42), none, .call false (.tmp 31) [(.tmp 41)], []⟩,
         ⟨(some 30), none, .move (.tmp 42), []⟩,
         ⟨(some 43), none, .extract (.tmp 30) 0, []⟩,
         ⟨(some 44), none, .extract (.tmp 30) 1, []⟩,
         ⟨(some 13), none, .move (.tmp 43), []⟩,
         ⟨(some 14), none, .move (.tmp 44), []⟩] [5, 11, 12, 13, 14])
       (.seq (.region [⟨(some 45), none, .move (.tmp 14), []⟩] [5, 11, 12, 13, 45])
       (.cond (.tmp 45) (.seq (.region [⟨(some 46), none, .move (.tmp 12), []⟩,
          ⟨(some 47), none, .mkslice 1 [(.tmp 46)], []⟩,
          ⟨(some 48), none, .move (.tmp 13), []⟩,
          ⟨(some 49), none, .append 1 (.tmp 47) (.tmp 48), []⟩,
          ⟨(some 13), none, .move (.tmp 49), []⟩] [5, 11, 13])
        (.seq (.region [⟨(some 50), none, .load none (.tmp 11), []⟩,
          ⟨(some 51), none, .isnil 0 false (.tmp 50), []⟩,
          ⟨(some 52), none, .move (.tmp 51), []⟩,
          ⟨(some 53), (some (52, false)), .fieldAddr 0 none (.tmp 5), []⟩,
          ⟨(some 54), (some (52, false)), .load none (.tmp 53), []⟩,
          ⟨(some 55), (some (52, false)), .move (.tmp 13), []⟩,
          ⟨(some 56), (some (52, false)), .load none (.tmp 11), []⟩,
          ⟨(some 57), (some (52, false)), .call false (.tmp 54) [(.tmp 55), (.tmp 56)], []⟩,
          ⟨(some 58), none, .pick (.tmp 52) (.const (.bool true)) (.tmp 57), []⟩] [11, 13, 58])
        (.cond (.tmp 58) (.region [⟨(some 59), none, .move (.tmp 13), []⟩,
           ⟨none, none, .store 1 (.tmp 11) (.tmp 59), []⟩] []) (.skip)))) (.skip))))
/-- (remontoir/voice.book).say$1 -/
def c110 : VFunc :=
  ⟨66, .seq (.region [⟨(some 6), none, .box (.tmp 0), []⟩,
     ⟨(some 7), none, .move (.const (.slice 0 [] .nil)), []⟩,
     ⟨(some 8), none, .move (.const (.bool false)), []⟩] [1, 2, 3, 4, 5, 6, 7, 8])
   (.seq (.seq (.region [⟨(some 16), none, .load none (.tmp 1), []⟩,
     ⟨(some 17), none, .load none (.tmp 6), []⟩,
     ⟨(some 18), none, .lookup false [some .i64] (.slice 0 [] .nil) true (.tmp 16) (.tmp 17), []⟩,
     ⟨(some 15), none, .move (.tmp 18), []⟩,
     ⟨(some 19), none, .extract (.tmp 15) 0, []⟩,
     ⟨(some 20), none, .extract (.tmp 15) 1, []⟩,
     ⟨(some 9), none, .move (.tmp 19), []⟩,
     ⟨(some 10), none, .move (.tmp 20), []⟩] [1, 2, 3, 4, 5, 6, 7, 8, 9, 10])
   (.seq (.region [⟨(some 21), none, .move (.tmp 10), []⟩] [1, 2, 3, 4, 5, 6, 7, 8, 9, 21])
   (.cond (.tmp 21) (.seq (.region [⟨(some 22), none, .move (.tmp 9), []⟩,
      ⟨(some 23), none, .move (.tmp 9), []⟩,
      ⟨(some 24), none, .isnil 0 true (.tmp 23), []⟩,
      ⟨(some 7), none, .move (.tmp 22), []⟩,
      ⟨(some 8), none, .move (.tmp 24), []⟩] [7, 8])
    (.ret)) (.skip))))
   (.seq (.region [⟨(some 11), none, .alloc [.slice 0 [] .nil], []⟩] [1, 2, 3, 4, 5, 6, 7, 8, 11])
   (.seq (.seq (.region [⟨(some 25), none, .load (some 16) (.tmp 2), []⟩,
     ⟨(some 26), none, .load none (.tmp 3), []⟩,
     ⟨(some 27), none, .load none (.tmp 6), []⟩,
     ⟨(some 28), none, .call false (.const (.func 103 [] [])) [(.tmp 25), (.tmp 26), (.tmp 27)], []⟩] [1, 2, 4, 5, 6, 7, 8, 11, 28])
   (.block 0 (.rangeFunc (.tmp 28) [29] c110_a0
     c110_b0 [2, 4, 5, 6, 11])))
   (.seq (.region [⟨(some 60), none, .load none (.tmp 1), []⟩,
     ⟨(some 61), none, .load none (.tmp 6), []⟩,
     ⟨(some 62), none, .load none (.tmp 11), []⟩,
     ⟨none, none, .mapset false [some .i64] (.tmp 60) (.tmp 61) (.tmp 62), []⟩] [11])
   (.seq (.region [⟨(some 63), none, .load none (.tmp 11), []⟩,
     ⟨(some 64), none, .load none (.tmp 11), []⟩,
     ⟨(some 65), none, .isnil 0 true (.tmp 64), []⟩,
     ⟨(some 7), none, .move (.tmp 63), []⟩,
     ⟨(some 8), none, .move (.tmp 65), []⟩] [7, 8])
   (.ret)))))),
  [.tmp 7, .tmp 8]⟩
/-- remontoir/beat.isSpan -/
def c111 : VFunc :=
  ⟨23, .seq (.region [⟨(some 2), none, .box (.tmp 0), []⟩,
     ⟨(some 4), none, .move (.const (.bool false)), []⟩] [1, 2])
   (.seq (.region [⟨(some 5), none, .move (.tmp 1), []⟩,
     ⟨(some 6), none, .neg (.tmp 5), []⟩,
     ⟨(some 7), none, .fieldAddr 0 none (.tmp 2), []⟩,
     ⟨(some 8), none, .load none (.tmp 7), []⟩,
     ⟨(some 9), none, .bin .leq (.tmp 6) (.tmp 8), []⟩,
     ⟨(some 10), none, .move (.tmp 9), []⟩,
     ⟨(some 11), (some (10, true)), .fieldAddr 0 none (.tmp 2), []⟩,
     ⟨(some 12), (some (10, true)), .load none (.tmp 11), []⟩,
     ⟨(some 13), (some (10, true)), .fieldAddr 1 none (.tmp 2), []⟩,
     ⟨(some 14), (some (10, true)), .load none (.tmp 13), []⟩,
     ⟨(some 15), (some (10, true)), .bin .leq (.tmp 12) (.tmp 14), []⟩,
     ⟨(some 16), none, .pick (.tmp 10) (.tmp 15) (.const (.bool false)), []⟩,
     ⟨(some 17), none, .move (.tmp 16), []⟩,
     ⟨(some 18), (some (17, true)), .fieldAddr 1 none (.tmp 2), []⟩,
     ⟨(some 19), (some (17, true)), .load none (.tmp 18), []⟩,
     ⟨(some 20), (some (17, true)), .move (.tmp 1), []⟩,
     ⟨(some 21), (some (17, true)), .bin .leq (.tmp 19) (.tmp 20), []⟩,
     ⟨(some 22), none, .pick (.tmp 17) (.tmp 21) (.const (.bool false)), []⟩,
     ⟨(some 4), none, .move (.tmp 22), []⟩] [4])
   (.ret)),
  [.tmp 4]⟩
def c113_l0 : VCode := .loop [0, 1, 7, 8] (.seq (.region [⟨(some 9), none, .bin .lss (.tmp 8) (.tmp 7), []⟩] [0, 1, 7, 8, 9])
     (.seq (.cond (.tmp 9) (.skip) (.exit 0))
     (.seq (.block 1 (.seq (.region [⟨(some 10), none, .move (.tmp 8), []⟩,
        ⟨(some 5), none, .move (.tmp 10), []⟩] [0, 1, 5, 7, 8])
      (.seq (.region [⟨(some 11), none, .move (.tmp 1), []⟩,
        ⟨(some 12), none, .move (.tmp 0), []⟩,
        ⟨(some 13), none, .move (.tmp 5), []⟩,
        ⟨(some 14), none, .idxAddr none 1 false (.tmp 12) (.tmp 13), []⟩,
        ⟨(some 15), none, .load none (.tmp 14), []⟩,
        ⟨(some 16), none, .call false (.tmp 11) [(.tmp 15)], []⟩] [0, 1, 5, 7, 8, 16])
      (.cond (.tmp 16) (.seq (.region [⟨(some 17), none, .move (.tmp 5), []⟩,
         ⟨(some 4), none, .move (.tmp 17), []⟩] [4])
       (.ret)) (.skip)))))
     (.region [⟨(some 18), none, .bin .add (.tmp 8) (.const (.int .i64 1)), []⟩,
       ⟨(some 8), none, .move (.tmp 18), []⟩] [0, 1, 7, 8]))))
/-- slices.IndexFunc[[]int,int] -/
def c113 : VFunc :=
  ⟨19, .seq (.region [⟨(some 4), none, .move (.const (.int .i64 0)), []⟩] [0, 1])
   (.seq (.seq (.region [⟨(some 6), none, .move (.tmp 0), []⟩,
     ⟨(some 7), none, .len (.tmp 6), []⟩,
     ⟨(some 8), none, .move (.const (.int .i64 0)), []⟩] [0, 1, 7, 8])
   (.block 0 (c113_l0)))
   (.seq (.region [⟨(some 4), none, .move (.const (.int .i64 (-1))), []⟩] [4])
   (.ret))),
  [.tmp 4]⟩
/-- remontoir/caller.nobody -/
def c122 : VFunc :=
  ⟨3, .seq (.region [⟨(some 0), none, .alloc (List.replicate 20 (.int .i64 0)), []⟩] [0])
   (.seq (.region [⟨(some 1), none, .alloc (List.replicate 20 (.int .i64 0)), []⟩] [0, 1])
   (.seq (.region [⟨(some 2), none, .load (some 20) (.tmp 1), []⟩,
     ⟨none, none, .store 20 (.tmp 0) (.tmp 2), []⟩] [0])
   (.ret))),
  [.cell 0 (some 20)]⟩
def c123_l0 : VCode := .loop [0, 3, 4] (.seq (.seq (.region [⟨(some 12), none, .move (.tmp 4), []⟩,
       ⟨(some 13), none, .move (.tmp 0), []⟩,
       ⟨(some 14), none, .len (.tmp 13), []⟩,
       ⟨(some 15), none, .bin .lss (.tmp 12) (.tmp 14), []⟩] [0, 3, 4, 15])
     (.cond (.tmp 15) (.skip) (.exit 0)))
     (.seq (.block 1 (.region [⟨(some 18), none, .move (.tmp 3), []⟩,
        ⟨(some 19), none, .move (.tmp 0), []⟩,
        ⟨(some 20), none, .move (.tmp 4), []⟩,
        ⟨(some 21), none, .idxAddr none 1 false (.tmp 19) (.tmp 20), []⟩,
        ⟨(some 22), none, .load none (.tmp 21), []⟩,
        ⟨(some 23), none, .min [(.tmp 18), (.tmp 22)], []⟩,
        ⟨(some 3), none, .move (.tmp 23), []⟩] [0, 3, 4]))
     (.region [⟨(some 16), none, .move (.tmp 4), []⟩,
       ⟨(some 17), none, .bin .add (.tmp 16) (.const (.int .i64 1)), []⟩,
       ⟨(some 4), none, .move (.tmp 17), []⟩] [0, 3, 4])))
/-- slices.Min[[]int,int] -/
def c123 : VFunc :=
  ⟨25, .seq (.region [⟨(some 2), none, .move (.const (.int .i64 0)), []⟩] [0])
   (.seq (.seq (.region [⟨(some 5), none, .move (.tmp 0), []⟩,
     ⟨(some 6), none, .len (.tmp 5), []⟩,
     ⟨(some 7), none, .bin .lss (.tmp 6) (.const (.int .i64 1)), []⟩] [0, 7])
   (.cond (.tmp 7) (.region [⟨(some 8), none, .bad, []⟩,
      ⟨none, none, .bad, []⟩] [0]) (.skip)))
   (.seq (.region [⟨(some 9), none, .move (.tmp 0), []⟩,
     ⟨(some 10), none, .idxAddr none 1 false (.tmp 9) (.const (.int .i64 0)), []⟩,
     ⟨(some 11), none, .load none (.tmp 10), []⟩,
     ⟨(some 3), none, .move (.tmp 11), []⟩] [0, 3])
   (.seq (.seq (.region [⟨(some 4), none, .move (.const (.int .i64 1)), []⟩] [0, 3, 4])
   (.block 0 (c123_l0)))
   (.seq (.region [⟨(some 24), none, .move (.tmp 3), []⟩,
     ⟨(some 2), none, .move (.tmp 24), []⟩] [2])
   (.ret))))),
  [.tmp 2]⟩
/-- (remontoir/caller.hour).until -/
def c124 : VFunc :=
  ⟨17, .seq (.region [⟨(some 3), none, .box (.tmp 0), []⟩,
     ⟨(some 4), none, .box (.tmp 1), []⟩,
     ⟨(some 6), none, .move (.const (.int .i64 0)), []⟩] [2, 3, 4])
   (.seq (.region [⟨(some 7), none, .load (some 8) (.tmp 3), []⟩,
     ⟨(some 8), none, .move (.tmp 2), []⟩,
     ⟨(some 9), none, .call true (.const (.func 61 [] [])) [(.tmp 7), (.tmp 8)], []⟩,
     ⟨(some 10), none, .fieldAddr 2 none (.tmp 4), []⟩,
     ⟨(some 11), none, .load none (.tmp 10), []⟩,
     ⟨(some 12), none, .fieldAddr 0 (some 6) (.tmp 3), []⟩,
     ⟨(some 13), none, .fieldAddr 0 none (.tmp 12), []⟩,
     ⟨(some 14), none, .load none (.tmp 13), []⟩,
     ⟨(some 15), none, .bin .mul (.tmp 11) (.tmp 14), []⟩,
     ⟨(some 16), none, .bin .add (.tmp 9) (.tmp 15), []⟩,
     ⟨(some 6), none, .move (.tmp 16), []⟩] [6])
   (.ret)),
  [.tmp 6]⟩
def c127_l0 : VCode := .loop [0, 1, 2, 3, 9, 10, 11] (.seq (.region [⟨(some 12), none, .bin .lss (.tmp 11) (.tmp 10), []⟩] [0, 1, 2, 3, 9, 10, 11, 12])
     (.seq (.cond (.tmp 12) (.skip) (.exit 0))
     (.seq (.block 1 (.seq (.region [⟨(some 13), none, .move (.tmp 11), []⟩,
        ⟨(some 14), none, .idxAddr none 4 true (.tmp 9) (.tmp 11), []⟩,
        ⟨(some 15), none, .load (some 4) (.tmp 14), []⟩,
        ⟨(some 6), none, .alloc [.slice 0 [] .nil, .int .i64 0, .int .i64 0, .int .i64 0], []⟩,
        ⟨(some 5), none, .move (.tmp 13), []⟩,
        ⟨none, none, .store 4 (.tmp 6) (.tmp 15), []⟩] [0, 1, 2, 3, 5, 6, 9, 10, 11])
      (.seq (.seq (.region [⟨(some 16), none, .move (.tmp 5), []⟩,
        ⟨(some 17), none, .fieldAddr 6 (some 10) (.tmp 1), []⟩,
        ⟨(some 18), none, .idxAddr (some 10) 1 false (.tmp 17) (.tmp 16), []⟩,
        ⟨(some 19), none, .load none (.tmp 18), []⟩,
        ⟨(some 20), none, .not (.tmp 19), []⟩,
        ⟨(some 21), none, .move (.tmp 20), []⟩,
        ⟨(some 22), (some (21, false)), .load none (.tmp 2), []⟩,
        ⟨(some 23), (some (21, false)), .fieldAddr 0 none (.tmp 6), []⟩,
        ⟨(some 24), (some (21, false)), .load none (.tmp 23), []⟩,
        ⟨(some 25), (some (21, false)), .len (.tmp 24), []⟩,
        ⟨(some 26), (some (21, false)), .bin .add (.tmp 22) (.tmp 25), []⟩,
        ⟨(some 27), (some (21, false)), .load none (.tmp 3), []⟩,
        ⟨(some 28), (some (21, false)), .len (.tmp 27), []⟩,
        ⟨(some 29), (some (21, false)), .bin .gtr (.tmp 26) (.tmp 28), []⟩,
        ⟨(some 30), none, .pick (.tmp 21) (.const (.bool true)) (.tmp 29), []⟩] [0, 1, 2, 3, 5, 6, 9, 10, 11, 30])
      (.cond (.tmp 30) (.exit 1) (.skip)))
      (.seq (.region [⟨(some 31), none, .fieldAddr 0 none (.tmp 6), []⟩,
        ⟨(some 32), none, .load none (.tmp 31), []⟩,
        ⟨(some 33), none, .load none (.tmp 3), []⟩,
        ⟨(some 34), none, .load none (.tmp 2), []⟩,
        ⟨(some 35), none, .load none (.tmp 2), []⟩,
        ⟨(some 36), none, .fieldAddr 0 none (.tmp 6), []⟩,
        ⟨(some 37), none, .load none (.tmp 36), []⟩,
        ⟨(some 38), none, .len (.tmp 37), []⟩,
        ⟨(some 39), none, .bin .add (.tmp 35) (.tmp 38), []⟩,
        ⟨(some 40), none, .slc 1 (.tmp 33) (some (.tmp 34)) (some (.tmp 39)) none, []⟩,
        ⟨(some 41), none, .call false (.const (.func 128 [] [])) [(.tmp 32), (.tmp 40)], []⟩,
        ⟨(some 42), none, .move (.tmp 41), []⟩,
        ⟨(some 43), (some (42, true)), .move (.tmp 0), []⟩,
        ⟨(some 44), (some (42, true)), .move (.tmp 5), []⟩,
        ⟨(some 45), (some (42, true)), .call false (.tmp 43) [(.tmp 44)], []⟩,
        ⟨(some 46), (some (42, true)), .not (.tmp 45), []⟩,
        ⟨(some 47), none, .pick (.tmp 42) (.tmp 46) (.const (.bool false)), []⟩] [0, 1, 2, 3, 9, 10, 11, 47])
      (.cond (.tmp 47) (.ret) (.skip))))))
     (.region [⟨(some 48), none, .bin .add (.tmp 11) (.const (.int .i64 1)), []⟩,
       ⟨(some 11), none, .move (.tmp 48), []⟩] [0, 1, 2, 3, 9, 10, 11]))))
/-- (remontoir/voice.book).next$1 -/
def c127 : VFunc :=
  ⟨49, .seq (.skip)
   (.seq (.region [⟨(some 7), none, .fieldAddr 0 (some 6) (.tmp 1), []⟩,
     ⟨(some 8), none, .fieldAddr 1 none (.tmp 7), []⟩,
     ⟨(some 9), none, .load none (.tmp 8), []⟩,
     ⟨(some 10), none, .len (.tmp 9), []⟩,
     ⟨(some 11), none, .move (.const (.int .i64 0)), []⟩] [0, 1, 2, 3, 9, 10, 11])
   (.block 0 (c127_l0))),
  []⟩
def c128_l0 : VCode := .loop [0, 1, 12, 13] (.seq (.region [⟨(some 14), none, .bin .lss (.tmp 13) (.tmp 12), []⟩] [0, 1, 12, 13, 14])
     (.seq (.cond (.tmp 14) (.skip) (.exit 0))
     (.seq (.block 1 (.seq (.region [⟨(some 15), none, .move (.tmp 13), []⟩,
        ⟨(some 5), none, .move (.tmp 15), []⟩] [0, 1, 5, 12, 13])
      (.seq (.region [⟨(some 16), none, .move (.tmp 0), []⟩,
        ⟨(some 17), none, .move (.tmp 5), []⟩,
        ⟨(some 18), none, .idxAddr none 1 false (.tmp 16) (.tmp 17), []⟩,
        ⟨(some 19), none, .load none (.tmp 18), []⟩,
        ⟨(some 20), none, .move (.tmp 1), []⟩,
        ⟨(some 21), none, .move (.tmp 5), []⟩,
        ⟨(some 22), none, .idxAddr none 1 false (.tmp 20) (.tmp 21), []⟩,
        ⟨(some 23), none, .load none (.tmp 22), []⟩,
        ⟨(some 24), none, .bin .neq (.tmp 19) (.tmp 23), []⟩] [0, 1, 12, 13, 24])
      (.cond (.tmp 24) (.seq (.region [⟨(some 4), none, .move (.const (.bool false)), []⟩] [4])
       (.ret)) (.skip)))))
     (.region [⟨(some 25), none, .bin .add (.tmp 13) (.const (.int .i64 1)), []⟩,
       ⟨(some 13), none, .move (.tmp 25), []⟩] [0, 1, 12, 13]))))
/-- slices.Equal[[]int,int] -/
def c128 : VFunc :=
  ⟨26, .seq (.region [⟨(some 4), none, .move (.const (.bool false)), []⟩] [0, 1])
   (.seq (.seq (.region [⟨(some 6), none, .move (.tmp 0), []⟩,
     ⟨(some 7), none, .len (.tmp 6), []⟩,
     ⟨(some 8), none, .move (.tmp 1), []⟩,
     ⟨(some 9), none, .len (.tmp 8), []⟩,
     ⟨(some 10), none, .bin .neq (.tmp 7) (.tmp 9), []⟩] [0, 1, 10])
   (.cond (.tmp 10) (.seq (.region [⟨(some 4), none, .move (.const (.bool false)), []⟩] [4])
    (.ret)) (.skip)))
   (.seq (.seq (.region [⟨(some 11), none, .move (.tmp 0), []⟩,
     ⟨(some 12), none, .len (.tmp 11), []⟩,
     ⟨(some 13), none, .move (.const (.int .i64 0)), []⟩] [0, 1, 12, 13])
   (.block 0 (c128_l0)))
   (.seq (.region [⟨(some 4), none, .move (.const (.bool true)), []⟩] [4])
   (.ret)))),
  [.tmp 4]⟩
/-- remontoir/spare.low$1 -/
def c130 : VFunc :=
  ⟨5, .seq (.region [⟨(some 1), none, .box (.tmp 0), []⟩,
     ⟨(some 2), none, .move (.const (.int .i64 0)), []⟩] [1])
   (.seq (.region [⟨(some 3), none, .fieldAddr 0 none (.tmp 1), []⟩,
     ⟨(some 4), none, .load none (.tmp 3), []⟩,
     ⟨(some 2), none, .move (.tmp 4), []⟩] [2])
   (.ret)),
  [.tmp 2]⟩
/-- remontoir/voice.fewest$1 -/
def c131 : VFunc :=
  ⟨23, .seq (.region [⟨(some 4), none, .move (.const (.bool false)), []⟩] [0, 1])
   (.seq (.region [⟨(some 5), none, .move (.tmp 0), []⟩,
     ⟨(some 6), none, .len (.tmp 5), []⟩,
     ⟨(some 7), none, .move (.tmp 1), []⟩,
     ⟨(some 8), none, .len (.tmp 7), []⟩,
     ⟨(some 9), none, .bin .lss (.tmp 6) (.tmp 8), []⟩,
     ⟨(some 10), none, .move (.tmp 9), []⟩,
     ⟨(some 11), (some (10, false)), .move (.tmp 0), []⟩,
     ⟨(some 12), (some (10, false)), .len (.tmp 11), []⟩,
     ⟨(some 13), (some (10, false)), .move (.tmp 1), []⟩,
     ⟨(some 14), (some (10, false)), .len (.tmp 13), []⟩,
     ⟨(some 15), (some (10, false)), .bin .eql (.tmp 12) (.tmp 14), []⟩,
     ⟨(some 16), (some (10, false)), .move (.tmp 15), []⟩,
     ⟨(some 17), (some (16, true)), .move (.tmp 0), []⟩,
     ⟨(some 18), (some (16, true)), .move (.tmp 1), []⟩,
     ⟨(some 19), (some (16, true)), .call false (.const (.func 132 [] [])) [(.tmp 17), (.tmp 18)], []⟩,
     ⟨(some 20), (some (16, true)), .bin .lss (.tmp 19) (.const (.int .i64 0)), []⟩,
     ⟨(some 21), (some (10, false)), .pick (.tmp 16) (.tmp 20) (.const (.bool false)), []⟩,
     ⟨(some 22), none, .pick (.tmp 10) (.const (.bool true)) (.tmp 21), []⟩,
     ⟨(some 4), none, .move (.tmp 22), []⟩] [4])
   (.ret)),
  [.tmp 4]⟩
def c132_l0 : VCode := .loop [0, 1, 9, 10, 11] (.seq (.region [⟨(some 12), none, .bin .lss (.tmp 11) (.tmp 10), []⟩] [0, 1, 9, 10, 11, 12])
     (.seq (.cond (.tmp 12) (.skip) (.exit 0))
     (.seq (.block 1 (.seq (.region [⟨(some 13), none, .move (.tmp 11), []⟩,
        ⟨(some 14), none, .idxAddr none 1 false (.tmp 9) (.tmp 11), []⟩,
        ⟨(some 15), none, .load none (.tmp 14), []⟩,
        ⟨(some 5), none, .move (.tmp 13), []⟩,
        ⟨(some 6), none, .move (.tmp 15), []⟩] [0, 1, 5, 6, 9, 10, 11])
      (.seq (.seq (.region [⟨(some 16), none, .move (.tmp 5), []⟩,
        ⟨(some 17), none, .move (.tmp 1), []⟩,
        ⟨(some 18), none, .len (.tmp 17), []⟩,
        ⟨(some 19), none, .bin .geq (.tmp 16) (.tmp 18), []⟩] [0, 1, 5, 6, 9, 10, 11, 19])
      (.cond (.tmp 19) (.seq (.region [⟨(some 4), none, .move (.const (.int .i64 1)), []⟩] [4])
       (.ret)) (.skip)))
      (.seq (.region [⟨(some 20), none, .move (.tmp 1), []⟩,
        ⟨(some 21), none, .move (.tmp 5), []⟩,
        ⟨(some 22), none, .idxAddr none 1 false (.tmp 20) (.tmp 21), []⟩,
        ⟨(some 23), none, .load none (.tmp 22), []⟩,
        ⟨(some 7), none, .move (.tmp 23), []⟩] [0, 1, 6, 7, 9, 10, 11])
      (.seq (.region [⟨(some 24), none, .move (.tmp 6), []⟩,
        ⟨(some 25), none, .move (.tmp 7), []⟩,
        ⟨(some 26), none, .call false (.const (.func 142 [] [])) [(.tmp 24), (.tmp 25)], []⟩,
        ⟨(some 8), none, .move (.tmp 26), []⟩] [0, 1, 8, 9, 10, 11])
      (.seq (.region [⟨(some 27), none, .move (.tmp 8), []⟩,
        ⟨(some 28), none, .bin .neq (.tmp 27) (.const (.int .i64 0)), []⟩] [0, 1, 8, 9, 10, 11, 28])
      (.cond (.tmp 28) (.seq (.region [⟨(some 29), none, .move (.tmp 8), []⟩,
         ⟨(some 4), none, .move (.tmp 29), []⟩] [4])
       (.ret)) (.skip))))))))
     (.region [⟨(some 30), none, .bin .add (.tmp 11) (.const (.int .i64 1)), []⟩,
       ⟨(some 11), none, .move (.tmp 30), []⟩] [0, 1, 9, 10, 11]))))
/-- slices.Compare[[]int,int] -/
def c132 : VFunc :=
  ⟨36, .seq (.region [⟨(some 4), none, .move (.const (.int .i64 0)), []⟩] [0, 1])
   (.seq (.seq (.region [⟨(some 9), none, .move (.tmp 0), []⟩,
     ⟨(some 10), none, .len (.tmp 9), []⟩,
     ⟨(some 11), none, .move (.const (.int .i64 0)), []⟩] [0, 1, 9, 10, 11])
   (.block 0 (c132_l0)))
   (.seq (.seq (.region [⟨(some 31), none, .move (.tmp 0), []⟩,
     ⟨(some 32), none, .len (.tmp 31), []⟩,
     ⟨(some 33), none, .move (.tmp 1), []⟩,
     ⟨(some 34), none, .len (.tmp 33), []⟩,
     ⟨(some 35), none, .bin .lss (.tmp 32) (.tmp 34), []⟩] [35])
   (.cond (.tmp 35) (.seq (.region [⟨(some 4), none, .move (.const (.int .i64 (-1))), []⟩] [4])
    (.ret)) (.skip)))
   (.seq (.region [⟨(some 4), none, .move (.const (.int .i64 0)), []⟩] [4])
   (.ret)))),
  [.tmp 4]⟩
/-- cmp.Compare[int] -/
def c142 : VFunc :=
  ⟨20, .seq (.region [⟨(some 4), none, .move (.const (.int .i64 0)), []⟩] [0, 1])
   (.seq (.region [⟨(some 7), none, .move (.tmp 0), []⟩,
     ⟨(some 8), none, .call false (.const (.func 146 [] [])) [(.tmp 7)], []⟩,
     ⟨(some 5), none, .move (.tmp 8), []⟩] [0, 1, 5])
   (.seq (.region [⟨(some 9), none, .move (.tmp 1), []⟩,
     ⟨(some 10), none, .call false (.const (.func 146 [] [])) [(.tmp 9)], []⟩,
     ⟨(some 6), none, .move (.tmp 10), []⟩] [0, 1, 5, 6])
   (.seq (.seq (.region [⟨(some 11), none, .move (.tmp 5), []⟩] [0, 1, 6, 11])
   (.cond (.tmp 11) (.seq (.seq (.region [⟨(some 12), none, .move (.tmp 6), []⟩] [12])
    (.cond (.tmp 12) (.seq (.region [⟨(some 4), none, .move (.const (.int .i64 0)), []⟩] [4])
     (.ret)) (.skip)))
    (.seq (.region [⟨(some 4), none, .move (.const (.int .i64 (-1))), []⟩] [4])
    (.ret))) (.skip)))
   (.seq (.seq (.region [⟨(some 13), none, .move (.tmp 6), []⟩] [0, 1, 13])
   (.cond (.tmp 13) (.seq (.region [⟨(some 4), none, .move (.const (.int .i64 1)), []⟩] [4])
    (.ret)) (.skip)))
   (.seq (.seq (.region [⟨(some 14), none, .move (.tmp 0), []⟩,
     ⟨(some 15), none, .move (.tmp 1), []⟩,
     ⟨(some 16), none, .bin .lss (.tmp 14) (.tmp 15), []⟩] [0, 1, 16])
   (.cond (.tmp 16) (.seq (.region [⟨(some 4), none, .move (.const (.int .i64 (-1))), []⟩] [4])
    (.ret)) (.skip)))
   (.seq (.seq (.region [⟨(some 17), none, .move (.tmp 0), []⟩,
     ⟨(some 18), none, .move (.tmp 1), []⟩,
     ⟨(some 19), none, .bin .gtr (.tmp 17) (.tmp 18), []⟩] [19])
   (.cond (.tmp 19) (.seq (.region [⟨(some 4), none, .move (.const (.int .i64 1)), []⟩] [4])
    (.ret)) (.skip)))
   (.seq (.region [⟨(some 4), none, .move (.const (.int .i64 0)), []⟩] [4])
   (.ret)))))))),
  [.tmp 4]⟩
/-- cmp.isNaN[int] -/
def c146 : VFunc :=
  ⟨6, .seq (.region [⟨(some 2), none, .move (.const (.bool false)), []⟩] [0])
   (.seq (.region [⟨(some 3), none, .move (.tmp 0), []⟩,
     ⟨(some 4), none, .move (.tmp 0), []⟩,
     ⟨(some 5), none, .bin .neq (.tmp 3) (.tmp 4), []⟩,
     ⟨(some 2), none, .move (.tmp 5), []⟩] [2])
   (.ret)),
  [.tmp 2]⟩
def c171_l2 : VCode := .loop [1, 3, 4, 5, 6, 7, 8, 13, 14, 15, 22, 23, 30, 31, 32] (.seq (.region [⟨(some 33), none, .bin .lss (.tmp 32) (.tmp 31), []⟩] [1, 3, 4, 5, 6, 7, 8, 13, 14, 15, 22, 23, 30, 31, 32, 33])
           (.seq (.cond (.tmp 33) (.skip) (.exit 4))
           (.seq (.block 5 (.seq (.region [⟨(some 34), none, .idxAddr none 4 true (.tmp 30) (.tmp 32), []⟩,
              ⟨(some 35), none, .load (some 4) (.tmp 34), []⟩,
              ⟨(some 10), none, .alloc [.int .i64 0, .int .i64 0, .int .i64 0, .int .i64 0], []⟩,
              ⟨none, none, .store 4 (.tmp 10) (.tmp 35), []⟩] [1, 3, 4, 5, 6, 7, 8, 10, 13, 14, 15, 22, 23, 30, 31, 32])
            (.seq (.region [⟨(some 36), none, .fieldAddr 0 none (.tmp 10), []⟩,
              ⟨(some 37), none, .load none (.tmp 36), []⟩,
              ⟨(some 38), none, .move (.tmp 4), []⟩,
              ⟨(some 39), none, .bin .eql (.tmp 37) (.tmp 38), []⟩,
              ⟨(some 40), none, .move (.tmp 39), []⟩,
              ⟨(some 41), (some (40, true)), .fieldAddr 1 none (.tmp 10), []⟩,
              ⟨(some 42), (some (40, true)), .load none (.tmp 41), []⟩,
              ⟨(some 43), (some (40, true)), .move (.tmp 6), []⟩,
              ⟨(some 44), (some (40, true)), .bin .eql (.tmp 42) (.tmp 43), []⟩,
              ⟨(some 45), none, .pick (.tmp 40) (.tmp 44) (.const (.bool false)), []⟩] [1, 3, 4, 5, 6, 7, 8, 10, 13, 14, 15, 22, 23, 30, 31, 32, 45])
            (.cond (.tmp 45) (.region [⟨(some 46), none, .move (.tmp 7), []⟩,
               ⟨(some 47), none, .fieldAddr 2 (some 2) (.tmp 10), []⟩,
               ⟨(some 48), none, .fieldAddr 0 none (.tmp 47), []⟩,
               ⟨(some 49), none, .load none (.tmp 48), []⟩,
               ⟨(some 50), none, .mkslice 1 [(.tmp 49)], []⟩,
               ⟨(some 51), none, .append 1 (.tmp 46) (.tmp 50), []⟩,
               ⟨(some 52), none, .move (.tmp 8), []⟩,
               ⟨(some 53), none, .fieldAddr 2 (some 2) (.tmp 10), []⟩,
               ⟨(some 54), none, .fieldAddr 1 none (.tmp 53), []⟩,
               ⟨(some 55), none, .load none (.tmp 54), []⟩,
               ⟨(some 56), none, .mkslice 1 [(.tmp 55)], []⟩,
               ⟨(some 57), none, .append 1 (.tmp 52) (.tmp 56), []⟩,
               ⟨(some 7), none, .move (.tmp 51), []⟩,
               ⟨(some 8), none, .move (.tmp 57), []⟩] [1, 3, 4, 5, 6, 7, 8, 13, 14, 15, 22, 23, 30, 31, 32]) (.skip)))))
           (.region [⟨(some 58), none, .bin .add (.tmp 32) (.const (.int .i64 1)), []⟩,
             ⟨(some 32), none, .move (.tmp 58), []⟩] [1, 3, 4, 5, 6, 7, 8, 13, 14, 15, 22, 23, 30, 31, 32]))))
def c171_l1 : VCode := .loop [1, 3, 4, 5, 13, 14, 15, 22, 23] (.seq (.region [⟨(some 24), none, .bin .lss (.tmp 23) (.tmp 22), []⟩] [1, 3, 4, 5, 13, 14, 15, 22, 23, 24])
        (.seq (.cond (.tmp 24) (.skip) (.exit 2))
        (.seq (.block 3 (.seq (.region [⟨(some 25), none, .move (.tmp 23), []⟩,
           ⟨(some 6), none, .move (.tmp 25), []⟩] [1, 3, 4, 5, 6, 13, 14, 15, 22, 23])
         (.seq (.region [⟨(some 26), none, .mkslice 1 [], []⟩,
           ⟨(some 27), none, .mkslice 1 [], []⟩,
           ⟨(some 7), none, .move (.tmp 26), []⟩,
           ⟨(some 8), none, .move (.tmp 27), []⟩] [1, 3, 4, 5, 6, 7, 8, 13, 14, 15, 22, 23])
         (.seq (.seq (.region [⟨(some 28), none, .fieldAddr 0 (some 4) (.tmp 1), []⟩,
           ⟨(some 29), none, .fieldAddr 2 none (.tmp 28), []⟩,
           ⟨(some 30), none, .load none (.tmp 29), []⟩,
           ⟨(some 31), none, .len (.tmp 30), []⟩,
           ⟨(some 32), none, .move (.const (.int .i64 0)), []⟩] [1, 3, 4, 5, 6, 7, 8, 13, 14, 15, 22, 23, 30, 31, 32])
         (.block 4 (c171_l2)))
         (.region [⟨(some 59), none, .move (.tmp 3), []⟩,
           ⟨(some 60), none, .move (.tmp 4), []⟩,
           ⟨(some 61), none, .move (.tmp 6), []⟩,
           ⟨(some 62), none, .bin .add (.tmp 61) (.const (.int .i64 1)), []⟩,
           ⟨(some 63), none, .build [.int .i64 0, .int .i64 0] [(0, 1, (.tmp 60)), (1, 1, (.tmp 62))], []⟩,
           ⟨(some 64), none, .move (.tmp 4), []⟩,
           ⟨(some 65), none, .move (.tmp 6), []⟩,
           ⟨(some 66), none, .build [.int .i64 0, .int .i64 0] [(0, 1, (.tmp 64)), (1, 1, (.tmp 65))], []⟩,
           ⟨(some 67), none, .fieldAddr 0 none (.tmp 5), []⟩,
           ⟨(some 68), none, .load none (.tmp 67), []⟩,
           ⟨(some 69), none, .move (.tmp 7), []⟩,
           ⟨(some 70), none, .call true (.const (.func 175 [] [])) [(.tmp 68), (.tmp 69)], []⟩,
           ⟨(some 71), none, .fieldAddr 1 none (.tmp 5), []⟩,
           ⟨(some 72), none, .load none (.tmp 71), []⟩,
           ⟨(some 73), none, .move (.tmp 8), []⟩,
           ⟨(some 74), none, .call false (.const (.func 175 [] [])) [(.tmp 72), (.tmp 73)], []⟩,
           ⟨(some 75), none, .build [.int .i64 0, .int .i64 0] [(0, 1, (.tmp 70)), (1, 1, (.tmp 74))], []⟩,
           ⟨(some 76), none, .call false (.const (.func 174 [] [])) [(.tmp 63), (.tmp 66), (.tmp 75)], []⟩,
           ⟨(some 77), none, .append 5 (.tmp 59) (.tmp 76), []⟩,
           ⟨(some 3), none, .move (.tmp 77), []⟩] [1, 3, 4, 5, 13, 14, 15, 22, 23])))))
        (.region [⟨(some 78), none, .bin .add (.tmp 23) (.const (.int .i64 1)), []⟩,
          ⟨(some 23), none, .move (.tmp 78), []⟩] [1, 3, 4, 5, 13, 14, 15, 22, 23]))))
def c171_l0 : VCode := .loop [1, 3, 13, 14, 15] (.seq (.region [⟨(some 16), none, .bin .lss (.tmp 15) (.tmp 14), []⟩] [1, 3, 13, 14, 15, 16])
     (.seq (.cond (.tmp 16) (.skip) (.exit 0))
     (.seq (.block 1 (.seq (.region [⟨(some 17), none, .move (.tmp 15), []⟩,
        ⟨(some 18), none, .idxAddr none 2 true (.tmp 13) (.tmp 15), []⟩,
        ⟨(some 19), none, .load (some 2) (.tmp 18), []⟩,
        ⟨(some 5), none, .alloc [.int .i64 0, .int .i64 0], []⟩,
        ⟨(some 4), none, .move (.tmp 17), []⟩,
        ⟨none, none, .store 2 (.tmp 5) (.tmp 19), []⟩] [1, 3, 4, 5, 13, 14, 15])
      (.seq (.region [⟨(some 20), none, .fieldAddr 0 (some 4) (.tmp 1), []⟩,
        ⟨(some 21), none, .fieldAddr 0 none (.tmp 20), []⟩,
        ⟨(some 22), none, .load none (.tmp 21), []⟩,
        ⟨(some 23), none, .move (.const (.int .i64 0)), []⟩] [1, 3, 4, 5, 13, 14, 15, 22, 23])
      (.block 2 (c171_l1)))))
     (.region [⟨(some 79), none, .bin .add (.tmp 15) (.const (.int .i64 1)), []⟩,
       ⟨(some 15), none, .move (.tmp 79), []⟩] [1, 3, 13, 14, 15]))))
/-- (remontoir/beat.cellar).grows -/
def c171 : VFunc :=
  ⟨81, .seq (.region [⟨(some 1), none, .box (.tmp 0), []⟩,
     ⟨(some 2), none, .move (.const (.slice 0 [] .nil)), []⟩] [1])
   (.seq (.region [⟨(some 3), none, .move (.const (.slice 0 [] .nil)), []⟩] [1, 3])
   (.seq (.seq (.region [⟨(some 11), none, .fieldAddr 0 (some 4) (.tmp 1), []⟩,
     ⟨(some 12), none, .fieldAddr 1 none (.tmp 11), []⟩,
     ⟨(some 13), none, .load none (.tmp 12), []⟩,
     ⟨(some 14), none, .len (.tmp 13), []⟩,
     ⟨(some 15), none, .move (.const (.int .i64 0)), []⟩] [1, 3, 13, 14, 15])
   (.block 0 (c171_l0)))
   (.seq (.region [⟨(some 80), none, .move (.tmp 3), []⟩,
     ⟨(some 2), none, .move (.tmp 80), []⟩] [2])
   (.ret)))),
  [.tmp 2]⟩
def c172_a0 : VCode := .region [⟨(some 5), none, .alloc [.int .i64 0, .int .i64 0, .int .i64 0, .int .i64 0, .int .i64 0], []⟩,
           ⟨none, none, .store 5 (.tmp 5) (.tmp 17), []⟩] [3, 4, 5]
def c172_b0 : VCode := .block 3 (.seq (.region [⟨(some 18), none, .call false (.const (.func 72 [] [])) [], []⟩,
            ⟨(some 6), none, .alloc [.int .i64 0, .int .i64 0], []⟩,
            ⟨none, none, .store 2 (.tmp 6) (.tmp 18), []⟩] [3, 4, 5, 6])
          (.seq (.seq (.region [⟨(some 19), none, .fieldAddr 2 none (.tmp 5), []⟩,
            ⟨(some 20), none, .load none (.tmp 19), []⟩,
            ⟨(some 21), none, .bin .geq (.tmp 20) (.const (.int .i64 0)), []⟩] [3, 4, 5, 6, 21])
          (.cond (.tmp 21) (.region [⟨(some 22), none, .fieldAddr 2 none (.tmp 5), []⟩,
             ⟨(some 23), none, .load none (.tmp 22), []⟩,
             ⟨(some 24), none, .load none (.tmp 4), []⟩,
             ⟨(some 25), none, .build [.int .i64 0, .int .i64 0] [(0, 1, (.tmp 23)), (1, 1, (.tmp 24))], []⟩,
             ⟨none, none, .store 2 (.tmp 6) (.tmp 25), []⟩] [3, 4, 5, 6]) (.skip)))
          (.region [⟨(some 26), none, .load none (.tmp 3), []⟩,
            ⟨(some 27), none, .fieldAddr 1 none (.tmp 5), []⟩,
            ⟨(some 28), none, .load none (.tmp 27), []⟩,
            ⟨(some 29), none, .load none (.tmp 4), []⟩,
            ⟨(some 30), none, .build [.int .i64 0, .int .i64 0] [(0, 1, (.tmp 28)), (1, 1, (.tmp 29))], []⟩,
            ⟨(some 31), none, .load (some 2) (.tmp 6), []⟩,
            ⟨(some 32), none, .fieldAddr 3 (some 2) (.tmp 5), []⟩,
            ⟨(some 33), none, .load (some 2) (.tmp 32), []⟩,
            ⟨(some 34), none, .call false (.const (.func 174 [] [])) [(.tmp 30), (.tmp 31), (.tmp 33)], [0]⟩,
            ⟨(some 35), none, .append 5 (.tmp 26) (.tmp 34), []⟩,
            ⟨none, none, .store 1 (.tmp 3) (.tmp 35), []⟩] [])))
def c172_l0 : VCode := .loop [1, 2, 3, 10, 11] (.seq (.region [⟨(some 12), none, .bin .lss (.tmp 11) (.tmp 10), []⟩] [1, 2, 3, 10, 11, 12])
     (.seq (.cond (.tmp 12) (.skip) (.exit 0))
     (.seq (.block 1 (.seq (.region [⟨(some 13), none, .move (.tmp 11), []⟩,
        ⟨(some 4), none, .alloc [.int .i64 0], []⟩,
        ⟨none, none, .store 1 (.tmp 4) (.tmp 13), []⟩] [1, 2, 3, 4, 10, 11])
      (.seq (.region [⟨(some 14), none, .load (some 6) (.tmp 1), []⟩,
        ⟨(some 15), none, .load none (.tmp 4), []⟩,
        ⟨(some 16), none, .call false (.const (.func 176 [] [])) [(.tmp 14), (.tmp 15)], []⟩] [1, 2, 3, 4, 10, 11, 16])
      (.block 2 (.rangeFunc (.tmp 16) [17] c172_a0
        c172_b0 [3, 4])))))
     (.region [⟨(some 36), none, .bin .add (.tmp 11) (.const (.int .i64 1)), []⟩,
       ⟨(some 11), none, .move (.tmp 36), []⟩] [1, 2, 3, 10, 11]))))
/-- (remontoir/beat.cellar).reads -/
def c172 : VFunc :=
  ⟨38, .seq (.region [⟨(some 1), none, .box (.tmp 0), []⟩,
     ⟨(some 2), none, .move (.const (.slice 0 [] .nil)), []⟩] [1, 2])
   (.seq (.region [⟨(some 3), none, .alloc [.slice 0 [] .nil], []⟩] [1, 2, 3])
   (.seq (.seq (.region [⟨(some 7), none, .fieldAddr 0 (some 4) (.tmp 1), []⟩,
     ⟨(some 8), none, .fieldAddr 0 none (.tmp 7), []⟩,
     ⟨(some 9), none, .load none (.tmp 8), []⟩,
     ⟨(some 10), none, .bin .add (.tmp 9) (.const (.int .i64 1)), []⟩,
     ⟨(some 11), none, .move (.const (.int .i64 0)), []⟩] [1, 2, 3, 10, 11])
   (.block 0 (c172_l0)))
   (.seq (.region [⟨(some 37), none, .load none (.tmp 3), []⟩,
     ⟨(some 2), none, .move (.tmp 37), []⟩] [2])
   (.ret)))),
  [.tmp 2]⟩
def c173_l1 : VCode := .loop [1, 3, 4, 9, 10, 16, 17] (.seq (.region [⟨(some 18), none, .bin .lss (.tmp 17) (.tmp 16), []⟩] [1, 3, 4, 9, 10, 16, 17, 18])
        (.seq (.cond (.tmp 18) (.skip) (.exit 2))
        (.seq (.block 3 (.seq (.region [⟨(some 19), none, .move (.tmp 17), []⟩,
           ⟨(some 5), none, .move (.tmp 19), []⟩] [1, 3, 4, 5, 9, 10, 16, 17])
         (.region [⟨(some 20), none, .move (.tmp 3), []⟩,
           ⟨(some 21), none, .move (.tmp 4), []⟩,
           ⟨(some 22), none, .move (.tmp 5), []⟩,
           ⟨(some 23), none, .build [.int .i64 0, .int .i64 0] [(0, 1, (.tmp 21)), (1, 1, (.tmp 22))], []⟩,
           ⟨(some 24), none, .call false (.const (.func 72 [] [])) [], []⟩,
           ⟨(some 25), none, .build [.int .i64 0, .int .i64 0] [(0, 1, (.const (.int .i64 (-100000)))), (1, 1, (.const (.int .i64 100000)))], []⟩,
           ⟨(some 26), none, .call false (.const (.func 174 [] [])) [(.tmp 23), (.tmp 24), (.tmp 25)], []⟩,
           ⟨(some 27), none, .append 5 (.tmp 20) (.tmp 26), []⟩,
           ⟨(some 3), none, .move (.tmp 27), []⟩] [1, 3, 4, 9, 10, 16, 17])))
        (.region [⟨(some 28), none, .bin .add (.tmp 17) (.const (.int .i64 1)), []⟩,
          ⟨(some 17), none, .move (.tmp 28), []⟩] [1, 3, 4, 9, 10, 16, 17]))))
def c173_l0 : VCode := .loop [1, 3, 9, 10] (.seq (.region [⟨(some 11), none, .bin .lss (.tmp 10) (.tmp 9), []⟩] [1, 3, 9, 10, 11])
     (.seq (.cond (.tmp 11) (.skip) (.exit 0))
     (.seq (.block 1 (.seq (.region [⟨(some 12), none, .move (.tmp 10), []⟩,
        ⟨(some 4), none, .move (.tmp 12), []⟩] [1, 3, 4, 9, 10])
      (.seq (.region [⟨(some 13), none, .fieldAddr 0 (some 4) (.tmp 1), []⟩,
        ⟨(some 14), none, .fieldAddr 0 none (.tmp 13), []⟩,
        ⟨(some 15), none, .load none (.tmp 14), []⟩,
        ⟨(some 16), none, .bin .add (.tmp 15) (.const (.int .i64 1)), []⟩,
        ⟨(some 17), none, .move (.const (.int .i64 0)), []⟩] [1, 3, 4, 9, 10, 16, 17])
      (.block 2 (c173_l1)))))
     (.region [⟨(some 29), none, .bin .add (.tmp 10) (.const (.int .i64 1)), []⟩,
       ⟨(some 10), none, .move (.tmp 29), []⟩] [1, 3, 9, 10]))))
/-- (remontoir/beat.cellar).holds -/
def c173 : VFunc :=
  ⟨31, .seq (.region [⟨(some 1), none, .box (.tmp 0), []⟩,
     ⟨(some 2), none, .move (.const (.slice 0 [] .nil)), []⟩] [1])
   (.seq (.region [⟨(some 3), none, .move (.const (.slice 0 [] .nil)), []⟩] [1, 3])
   (.seq (.seq (.region [⟨(some 6), none, .fieldAddr 0 (some 4) (.tmp 1), []⟩,
     ⟨(some 7), none, .fieldAddr 1 none (.tmp 6), []⟩,
     ⟨(some 8), none, .load none (.tmp 7), []⟩,
     ⟨(some 9), none, .len (.tmp 8), []⟩,
     ⟨(some 10), none, .move (.const (.int .i64 0)), []⟩] [1, 3, 9, 10])
   (.block 0 (c173_l0)))
   (.seq (.region [⟨(some 30), none, .move (.tmp 3), []⟩,
     ⟨(some 2), none, .move (.tmp 30), []⟩] [2])
   (.ret)))),
  [.tmp 2]⟩
/-- remontoir/beat.both -/
def c174 : VFunc :=
  ⟨19, .seq (.region [⟨(some 3), none, .box (.tmp 0), []⟩,
     ⟨(some 4), none, .box (.tmp 1), []⟩,
     ⟨(some 5), none, .box (.tmp 2), []⟩,
     ⟨(some 6), none, .move (.const (.slice 0 [] .nil)), []⟩] [3, 4, 5])
   (.seq (.region [⟨(some 7), none, .load (some 2) (.tmp 3), []⟩,
     ⟨(some 8), none, .load (some 2) (.tmp 4), []⟩,
     ⟨(some 9), none, .fieldAddr 1 none (.tmp 5), []⟩,
     ⟨(some 10), none, .load none (.tmp 9), []⟩,
     ⟨(some 11), none, .build [.int .i64 0, .int .i64 0, .int .i64 0, .int .i64 0, .int .i64 0] [(0, 2, (.tmp 7)), (2, 2, (.tmp 8)), (4, 1, (.tmp 10))], []⟩,
     ⟨(some 12), none, .load (some 2) (.tmp 4), []⟩,
     ⟨(some 13), none, .load (some 2) (.tmp 3), []⟩,
     ⟨(some 14), none, .fieldAddr 0 none (.tmp 5), []⟩,
     ⟨(some 15), none, .load none (.tmp 14), []⟩,
     ⟨(some 16), none, .neg (.tmp 15), []⟩,
     ⟨(some 17), none, .build [.int .i64 0, .int .i64 0, .int .i64 0, .int .i64 0, .int .i64 0] [(0, 2, (.tmp 12)), (2, 2, (.tmp 13)), (4, 1, (.tmp 16))], []⟩,
     ⟨(some 18), none, .mkslice 5 [(.tmp 11), (.tmp 17)], []⟩,
     ⟨(some 6), none, .move (.tmp 18), []⟩] [6])
   (.ret)),
  [.tmp 6]⟩
def c175_l0 : VCode := .loop [0, 7, 8, 9] (.seq (.region [⟨(some 10), none, .bin .lss (.tmp 9) (.tmp 8), []⟩] [0, 7, 8, 9, 10])
     (.seq (.cond (.tmp 10) (.skip) (.exit 0))
     (.seq (.block 1 (.seq (.region [⟨(some 11), none, .idxAddr none 1 false (.tmp 7) (.tmp 9), []⟩,
        ⟨(some 12), none, .load none (.tmp 11), []⟩,
        ⟨(some 6), none, .move (.tmp 12), []⟩] [0, 6, 7, 8, 9])
      (.region [⟨(some 13), none, .move (.tmp 0), []⟩,
        ⟨(some 14), none, .move (.tmp 6), []⟩,
        ⟨(some 15), none, .bin .add (.tmp 13) (.tmp 14), []⟩,
        ⟨(some 0), none, .move (.tmp 15), []⟩] [0, 7, 8, 9])))
     (.region [⟨(some 16), none, .bin .add (.tmp 9) (.const (.int .i64 1)), []⟩,
       ⟨(some 9), none, .move (.tmp 16), []⟩] [0, 7, 8, 9]))))
/-- remontoir/beat.sum[int] -/
def c175 : VFunc :=
  ⟨18, .seq (.region [⟨(some 4), none, .move (.const (.int .i64 0)), []⟩] [0, 1])
   (.seq (.seq (.region [⟨(some 7), none, .move (.tmp 1), []⟩,
     ⟨(some 8), none, .len (.tmp 7), []⟩,
     ⟨(some 9), none, .move (.const (.int .i64 0)), []⟩] [0, 7, 8, 9])
   (.block 0 (c175_l0)))
   (.seq (.region [⟨(some 17), none, .move (.tmp 0), []⟩,
     ⟨(some 4), none, .move (.tmp 17), []⟩] [4])
   (.ret))),
  [.tmp 4]⟩
/-- (remontoir/beat.cellar).pairs -/
def c176 : VFunc :=
  ⟨6, .seq (.region [⟨(some 2), none, .box (.tmp 0), []⟩,
     ⟨(some 3), none, .box (.tmp 1), []⟩,
     ⟨(some 4), none, .move (.const (.nilf)), []⟩] [2, 3])
   (.seq (.region [⟨(some 5), none, .mkfunc 177 [] [(.tmp 2), (.tmp 3)], []⟩,
     ⟨(some 4), none, .move (.tmp 5), []⟩] [4])
   (.ret)),
  [.tmp 4]⟩
def c177_l0 : VCode := .loop [0, 1, 2, 8, 9, 10] (.seq (.region [⟨(some 11), none, .bin .lss (.tmp 10) (.tmp 9), []⟩] [0, 1, 2, 8, 9, 10, 11])
     (.seq (.cond (.tmp 11) (.skip) (.exit 0))
     (.seq (.block 1 (.seq (.region [⟨(some 12), none, .idxAddr none 5 true (.tmp 8) (.tmp 10), []⟩,
        ⟨(some 13), none, .load (some 5) (.tmp 12), []⟩,
        ⟨(some 5), none, .alloc [.int .i64 0, .int .i64 0, .int .i64 0, .int .i64 0, .int .i64 0], []⟩,
        ⟨none, none, .store 5 (.tmp 5) (.tmp 13), []⟩] [0, 1, 2, 5, 8, 9, 10])
      (.seq (.region [⟨(some 14), none, .fieldAddr 0 none (.tmp 5), []⟩,
        ⟨(some 15), none, .load none (.tmp 14), []⟩,
        ⟨(some 16), none, .load none (.tmp 2), []⟩,
        ⟨(some 17), none, .bin .eql (.tmp 15) (.tmp 16), []⟩,
        ⟨(some 18), none, .move (.tmp 17), []⟩,
        ⟨(some 19), (some (18, true)), .load (some 6) (.tmp 1), []⟩,
        ⟨(some 20), (some (18, true)), .load (some 5) (.tmp 5), []⟩,
        ⟨(some 21), (some (18, true)), .call false (.const (.func 178 [] [])) [(.tmp 19), (.tmp 20)], []⟩,
        ⟨(some 22), (some (18, true)), .not (.tmp 21), []⟩,
        ⟨(some 23), none, .pick (.tmp 18) (.tmp 22) (.const (.bool false)), []⟩,
        ⟨(some 24), none, .move (.tmp 23), []⟩,
        ⟨(some 25), (some (24, true)), .move (.tmp 0), []⟩,
        ⟨(some 26), (some (24, true)), .load (some 5) (.tmp 5), []⟩,
        ⟨(some 27), (some (24, true)), .call false (.tmp 25) [(.tmp 26)], []⟩,
        ⟨(some 28), (some (24, true)), .not (.tmp 27), []⟩,
        ⟨(some 29), none, .pick (.tmp 24) (.tmp 28) (.const (.bool false)), []⟩] [0, 1, 2, 8, 9, 10, 29])
      (.cond (.tmp 29) (.ret) (.skip)))))
     (.region [⟨(some 30), none, .bin .add (.tmp 10) (.const (.int .i64 1)), []⟩,
       ⟨(some 10), none, .move (.tmp 30), []⟩] [0, 1, 2, 8, 9, 10]))))
/-- (remontoir/beat.cellar).pairs$1 -/
def c177 : VFunc :=
  ⟨31, .seq (.region [⟨(some 6), none, .fieldAddr 0 (some 4) (.tmp 1), []⟩,
     ⟨(some 7), none, .fieldAddr 3 none (.tmp 6), []⟩,
     ⟨(some 8), none, .load none (.tmp 7), []⟩,
     ⟨(some 9), none, .len (.tmp 8), []⟩,
     ⟨(some 10), none, .move (.const (.int .i64 0)), []⟩] [0, 1, 2, 8, 9, 10])
   (.block 0 (c177_l0)),
  []⟩
/-- (remontoir/beat.cellar).of -/
def c178 : VFunc :=
  ⟨26, .seq (.region [⟨(some 2), none, .box (.tmp 0), []⟩,
     ⟨(some 3), none, .box (.tmp 1), []⟩,
     ⟨(some 4), none, .move (.const (.bool false)), []⟩] [2, 3])
   (.seq (.region [⟨(some 5), none, .fieldAddr 4 none (.tmp 2), []⟩,
     ⟨(some 6), none, .load none (.tmp 5), []⟩,
     ⟨(some 7), none, .fieldAddr 1 none (.tmp 3), []⟩,
     ⟨(some 8), none, .load none (.tmp 7), []⟩,
     ⟨(some 9), none, .bin .shr (.tmp 6) (.tmp 8), []⟩,
     ⟨(some 10), none, .bin .and (.tmp 9) (.const (.int .i64 1)), []⟩,
     ⟨(some 11), none, .bin .eql (.tmp 10) (.const (.int .i64 1)), []⟩,
     ⟨(some 12), none, .move (.tmp 11), []⟩,
     ⟨(some 13), (some (12, false)), .fieldAddr 2 none (.tmp 3), []⟩,
     ⟨(some 14), (some (12, false)), .load none (.tmp 13), []⟩,
     ⟨(some 15), (some (12, false)), .bin .geq (.tmp 14) (.const (.int .i64 0)), []⟩,
     ⟨(some 16), (some (12, false)), .move (.tmp 15), []⟩,
     ⟨(some 17), (some (16, true)), .fieldAddr 4 none (.tmp 2), []⟩,
     ⟨(some 18), (some (16, true)), .load none (.tmp 17), []⟩,
     ⟨(some 19), (some (16, true)), .fieldAddr 2 none (.tmp 3), []⟩,
     ⟨(some 20), (some (16, true)), .load none (.tmp 19), []⟩,
     ⟨(some 21), (some (16, true)), .bin .shr (.tmp 18) (.tmp 20), []⟩,
     ⟨(some 22), (some (16, true)), .bin .and (.tmp 21) (.const (.int .i64 1)), []⟩,
     ⟨(some 23), (some (16, true)), .bin .eql (.tmp 22) (.const (.int .i64 1)), []⟩,
     ⟨(some 24), (some (12, false)), .pick (.tmp 16) (.tmp 23) (.const (.bool false)), []⟩,
     ⟨(some 25), none, .pick (.tmp 12) (.const (.bool true)) (.tmp 24), []⟩,
     ⟨(some 4), none, .move (.tmp 25), []⟩] [4])
   (.ret)),
  [.tmp 4]⟩
def prog : Prog := fun n => (match Nat.blt n 70 with | true => (match Nat.blt n 36 with | true => (match Nat.blt n 16 with | true => (match Nat.blt n 10 with | true => (match Nat.blt n 7 with | true => (match Nat.blt n 6 with | true => (match Nat.beq n 3 with | true => some c3 | false => none) | false => (match Nat.beq n 6 with | true => some c6 | false => none)) | false => (match Nat.blt n 8 with | true => (match Nat.beq n 7 with | true => some c7 | false => none) | false => (match Nat.blt n 9 with | true => (match Nat.beq n 8 with | true => some c8 | false => none) | false => (match Nat.beq n 9 with | true => some c9 | false => none)))) | false => (match Nat.blt n 12 with | true => (match Nat.blt n 11 with | true => (match Nat.beq n 10 with | true => some c10 | false => none) | false => (match Nat.beq n 11 with | true => some c11 | false => none)) | false => (match Nat.blt n 13 with | true => (match Nat.beq n 12 with | true => some c12 | false => none) | false => (match Nat.blt n 14 with | true => (match Nat.beq n 13 with | true => some c13 | false => none) | false => (match Nat.beq n 14 with | true => some c14 | false => none))))) | false => (match Nat.blt n 30 with | true => (match Nat.blt n 27 with | true => (match Nat.blt n 23 with | true => (match Nat.beq n 16 with | true => some c16 | false => none) | false => (match Nat.beq n 23 with | true => some c23 | false => none)) | false => (match Nat.blt n 28 with | true => (match Nat.beq n 27 with | true => some c27 | false => none) | false => (match Nat.blt n 29 with | true => (match Nat.beq n 28 with | true => some c28 | false => none) | false => (match Nat.beq n 29 with | true => some c29 | false => none)))) | false => (match Nat.blt n 33 with | true => (match Nat.blt n 31 with | true => (match Nat.beq n 30 with | true => some c30 | false => none) | false => (match Nat.blt n 32 with | true => (match Nat.beq n 31 with | true => some c31 | false => none) | false => (match Nat.beq n 32 with | true => some c32 | false => none))) | false => (match Nat.blt n 34 with | true => (match Nat.beq n 33 with | true => some c33 | false => none) | false => (match Nat.blt n 35 with | true => (match Nat.beq n 34 with | true => some c34 | false => none) | false => (match Nat.beq n 35 with | true => some c35 | false => none)))))) | false => (match Nat.blt n 48 with | true => (match Nat.blt n 41 with | true => (match Nat.blt n 38 with | true => (match Nat.blt n 37 with | true => (match Nat.beq n 36 with | true => some c36 | false => none) | false => (match Nat.beq n 37 with | true => some c37 | false => none)) | false => (match Nat.blt n 39 with | true => (match Nat.beq n 38 with | true => some c38 | false => none) | false => (match Nat.blt n 40 with | true => (match Nat.beq n 39 with | true => some c39 | false => none) | false => (match Nat.beq n 40 with | true => some c40 | false => none)))) | false => (match Nat.blt n 43 with | true => (match Nat.blt n 42 with | true => (match Nat.beq n 41 with | true => some c41 | false => none) | false => (match Nat.beq n 42 with | true => some c42 | false => none)) | false => (match Nat.blt n 46 with | true => (match Nat.beq n 43 with | true => some c43 | false => none) | false => (match Nat.blt n 47 with | true => (match Nat.beq n 46 with | true => some c46 | false => none) | false => (match Nat.beq n 47 with | true => some c47 | false => none))))) | false => (match Nat.blt n 63 with | true => (match Nat.blt n 58 with | true => (match Nat.blt n 57 with | true => (match Nat.beq n 48 with | true => some c48 | false => none) | false => (match Nat.beq n 57 with | true => some c57 | false => none)) | false => (match Nat.blt n 60 with | true => (match Nat.beq n 58 with | true => some c58 | false => none) | false => (match Nat.blt n 61 with | true => (match Nat.beq n 60 with | true => some c60 | false => none) | false => (match Nat.beq n 61 with | true => some c61 | false => none)))) | false => (match Nat.blt n 67 with | true => (match Nat.blt n 64 with | true => (match Nat.beq n 63 with | true => some c63 | false => none) | false => (match Nat.blt n 66 with | true => (match Nat.beq n 64 with | true => some c64 | false => none) | false => (match Nat.beq n 66 with | true => some c66 | false => none))) | false => (match Nat.blt n 68 with | true => (match Nat.beq n 67 with | true => some c67 | false => none) | false => (match Nat.blt n 69 with | true => (match Nat.beq n 68 with | true => some c68 | false => none) | false => (match Nat.beq n 69 with | true => some c69 | false => none))))))) | false => (match Nat.blt n 110 with | true => (match Nat.blt n 80 with | true => (match Nat.blt n 75 with | true => (match Nat.blt n 72 with | true => (match Nat.blt n 71 with | true => (match Nat.beq n 70 with | true => some c70 | false => none) | false => (match Nat.beq n 71 with | true => some c71 | false => none)) | false => (match Nat.blt n 73 with | true => (match Nat.beq n 72 with | true => some c72 | false => none) | false => (match Nat.blt n 74 with | true => (match Nat.beq n 73 with | true => some c73 | false => none) | false => (match Nat.beq n 74 with | true => some c74 | false => none)))) | false => (match Nat.blt n 77 with | true => (match Nat.blt n 76 with | true => (match Nat.beq n 75 with | true => some c75 | false => none) | false => (match Nat.beq n 76 with | true => some c76 | false => none)) | false => (match Nat.blt n 78 with | true => (match Nat.beq n 77 with | true => some c77 | false => none) | false => (match Nat.blt n 79 with | true => (match Nat.beq n 78 with | true => some c78 | false => none) | false => (match Nat.beq n 79 with | true => some c79 | false => none))))) | false => (match Nat.blt n 101 with | true => (match Nat.blt n 85 with | true => (match Nat.blt n 84 with | true => (match Nat.beq n 80 with | true => some c80 | false => none) | false => (match Nat.beq n 84 with | true => some c84 | false => none)) | false => (match Nat.blt n 99 with | true => (match Nat.beq n 85 with | true => some c85 | false => none) | false => (match Nat.blt n 100 with | true => (match Nat.beq n 99 with | true => some c99 | false => none) | false => (match Nat.beq n 100 with | true => some c100 | false => none)))) | false => (match Nat.blt n 107 with | true => (match Nat.blt n 103 with | true => (match Nat.beq n 101 with | true => some c101 | false => none) | false => (match Nat.blt n 106 with | true => (match Nat.beq n 103 with | true => some c103 | false => none) | false => (match Nat.beq n 106 with | true => some c106 | false => none))) | false => (match Nat.blt n 108 with | true => (match Nat.beq n 107 with | true => some c107 | false => none) | false => (match Nat.blt n 109 with | true => (match Nat.beq n 108 with | true => some c108 | false => none) | false => (match Nat.beq n 109 with | true => some c109 | false => none)))))) | false => (match Nat.blt n 132 with | true => (match Nat.blt n 124 with | true => (match Nat.blt n 113 with | true => (match Nat.blt n 111 with | true => (match Nat.beq n 110 with | true => some c110 | false => none) | false => (match Nat.beq n 111 with | true => some c111 | false => none)) | false => (match Nat.blt n 122 with | true => (match Nat.beq n 113 with | true => some c113 | false => none) | false => (match Nat.blt n 123 with | true => (match Nat.beq n 122 with | true => some c122 | false => none) | false => (match Nat.beq n 123 with | true => some c123 | false => none)))) | false => (match Nat.blt n 128 with | true => (match Nat.blt n 127 with | true => (match Nat.beq n 124 with | true => some c124 | false => none) | false => (match Nat.beq n 127 with | true => some c127 | false => none)) | false => (match Nat.blt n 130 with | true => (match Nat.beq n 128 with | true => some c128 | false => none) | false => (match Nat.blt n 131 with | true => (match Nat.beq n 130 with | true => some c130 | false => none) | false => (match Nat.beq n 131 with | true => some c131 | false => none))))) | false => (match Nat.blt n 173 with | true => (match Nat.blt n 146 with | true => (match Nat.blt n 142 with | true => (match Nat.beq n 132 with | true => some c132 | false => none) | false => (match Nat.beq n 142 with | true => some c142 | false => none)) | false => (match Nat.blt n 171 with | true => (match Nat.beq n 146 with | true => some c146 | false => none) | false => (match Nat.blt n 172 with | true => (match Nat.beq n 171 with | true => some c171 | false => none) | false => (match Nat.beq n 172 with | true => some c172 | false => none)))) | false => (match Nat.blt n 176 with | true => (match Nat.blt n 174 with | true => (match Nat.beq n 173 with | true => some c173 | false => none) | false => (match Nat.blt n 175 with | true => (match Nat.beq n 174 with | true => some c174 | false => none) | false => (match Nat.beq n 175 with | true => some c175 | false => none))) | false => (match Nat.blt n 177 with | true => (match Nat.beq n 176 with | true => some c176 | false => none) | false => (match Nat.blt n 178 with | true => (match Nat.beq n 177 with | true => some c177 | false => none) | false => (match Nat.beq n 178 with | true => some c178 | false => none))))))))
def globs : Globs := [(2, .agg [.func 33 [] [], .func 68 [] []]), (3, .agg [.func 171 [] [], .func 172 [] [], .func 173 [] []])]
end Go.Vi.Tryd
