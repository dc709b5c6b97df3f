/- The resolved code of the functions, printed by gen.py. -/
import Derived.Test.YtjlgkjmbndmkjaaDev2c
set_option linter.all false
set_option maxRecDepth 100000
namespace Bz
open Go
def bs (l : List UInt8) : ByteArray := ⟨l.toArray⟩
namespace C
/-- 1 bailiff/bailifflaw09.DescTwos -/
def bailifflaw09_DescTwos.tX0 (t0 t1 t2 t3 t4 : DC) : DC :=
     (.cond (.t 24)
      (.seq
       (.ops [
         ⟨some 8, (.mv (.c (.bool true))), none⟩])
       .ret)
      .skip)
def bailifflaw09_DescTwos.t0 : DC := bailifflaw09_DescTwos.tX0 .skip .skip .skip .skip .skip
def bailifflaw09_DescTwos.sX0 (t : DC) : DC := .kp [0, 2, 5, 7, 24] [5, 7] t
def bailifflaw09_DescTwos.tX1 (t0 t1 t2 t3 t4 : DC) : DC :=
  (.ops [
    ⟨some 8, (.mv (.t 81)), none⟩])
def bailifflaw09_DescTwos.t1 : DC := bailifflaw09_DescTwos.tX1 bailifflaw09_DescTwos.t0 .skip .skip .skip .skip
def bailifflaw09_DescTwos.tX2 (t0 t1 t2 t3 t4 : DC) : DC :=
  (.opsc [
    ⟨some 77, (.mv (.t 76)), none⟩,
    ⟨some 78, (.load (some 16) (.t 13)), some (77, true)⟩,
    ⟨some 79, (.load (some 16) (.t 16)), some (77, true)⟩,
    ⟨some 80, (.call 57 [(.t 78), (.t 79)] .bool []), some (77, true)⟩,
    ⟨some 81, (.pick (.t 77) (.t 80) (.c (.bool false))), none⟩] [81] [] t1)
def bailifflaw09_DescTwos.t2 : DC := bailifflaw09_DescTwos.tX2 bailifflaw09_DescTwos.t0 bailifflaw09_DescTwos.t1 .skip .skip .skip
def bailifflaw09_DescTwos.tX3 (t0 t1 t2 t3 t4 : DC) : DC :=
  (.opsc [
    ⟨some 72, (.mv (.t 71)), none⟩,
    ⟨some 73, (.mv (.t 15)), some (72, true)⟩,
    ⟨some 74, (.mv (.t 18)), some (72, true)⟩,
    ⟨some 75, (.bini .eql (.t 73) (.t 74)), some (72, true)⟩,
    ⟨some 76, (.pick (.t 72) (.t 75) (.c (.bool false))), none⟩] [13, 16, 76] [13, 16] t2)
def bailifflaw09_DescTwos.t3 : DC := bailifflaw09_DescTwos.tX3 bailifflaw09_DescTwos.t0 bailifflaw09_DescTwos.t1 bailifflaw09_DescTwos.t2 .skip .skip
def bailifflaw09_DescTwos.tX4 (t0 t1 t2 t3 t4 : DC) : DC :=
  (.opsc [
    ⟨some 67, (.mv (.t 66)), none⟩,
    ⟨some 68, (.mv (.t 14)), some (67, true)⟩,
    ⟨some 69, (.mv (.t 17)), some (67, true)⟩,
    ⟨some 70, (.eqb false (.t 68) (.t 69)), some (67, true)⟩,
    ⟨some 71, (.pick (.t 67) (.t 70) (.c (.bool false))), none⟩] [13, 15, 16, 18, 71] [13, 16] t3)
def bailifflaw09_DescTwos.t4 : DC := bailifflaw09_DescTwos.tX4 bailifflaw09_DescTwos.t0 bailifflaw09_DescTwos.t1 bailifflaw09_DescTwos.t2 bailifflaw09_DescTwos.t3 .skip
def bailifflaw09_DescTwos.bodyX (t0 t1 t2 t3 t4 : DC) : DC :=
  (.seq
   (.ops [
     ⟨some 5, (.box 5 (.t 1)), none⟩,
     ⟨some 7, (.box 7 (.t 3)), none⟩,
     ⟨some 8, (.mv (.c (.bool false))), none⟩])
   (.seq
    (.seq
     (.ops [
       ⟨some 19, (.load (some 16) (.t 5)), none⟩,
       ⟨some 20, (.call 4 [(.t 19)] .bool []), none⟩,
       ⟨some 21, (.mv (.t 20)), none⟩,
       ⟨some 22, (.load (some 16) (.t 7)), some (21, false)⟩,
       ⟨some 23, (.call 4 [(.t 22)] .bool []), some (21, false)⟩,
       ⟨some 24, (.pick (.t 21) (.c (.bool true)) (.t 23)), none⟩])
     (bailifflaw09_DescTwos.sX0 t0))
    (.seq
     (.ops [
       ⟨some 26, (.mv (.t 0)), none⟩,
       ⟨some 27, (.load (some 16) (.t 5)), none⟩,
       ⟨some 28, (.mv (.t 2)), none⟩,
       ⟨some 29, (.load (some 16) (.t 7)), none⟩,
       ⟨some 30, (.call 126 [(.t 26), (.t 27), (.t 28), (.t 29)] (.p2 .bool (.int .i64)) []), none⟩,
       ⟨some 25, (.mv (.t 30)), none⟩,
       ⟨some 31, (.ext (.t 25) 0), none⟩,
       ⟨some 32, (.ext (.t 25) 1), none⟩,
       ⟨some 9, (.mv (.t 31)), none⟩,
       ⟨some 10, (.mv (.t 32)), none⟩])
     (.seq
      (.ops [
        ⟨some 34, (.mv (.t 0)), none⟩,
        ⟨some 35, (.load (some 16) (.t 5)), none⟩,
        ⟨some 36, (.mv (.t 2)), none⟩,
        ⟨some 37, (.load (some 16) (.t 7)), none⟩,
        ⟨some 38, (.call 60 [(.t 34), (.t 35), (.t 36), (.t 37)] (.p2 .bool (.int .i64)) []), none⟩,
        ⟨some 33, (.mv (.t 38)), none⟩,
        ⟨some 39, (.ext (.t 33) 0), none⟩,
        ⟨some 40, (.ext (.t 33) 1), none⟩,
        ⟨some 11, (.mv (.t 39)), none⟩,
        ⟨some 12, (.mv (.t 40)), none⟩])
      (.seq
       (.ops [
         ⟨some 42, (.mv (.t 0)), none⟩,
         ⟨some 43, (.load (some 16) (.t 5)), none⟩,
         ⟨some 44, (.mv (.t 2)), none⟩,
         ⟨some 45, (.load (some 16) (.t 7)), none⟩,
         ⟨some 46, (.call 124 [(.t 42), (.t 43), (.t 44), (.t 45)] (.p3 .dsc .bool (.int .i64)) []), none⟩,
         ⟨some 41, (.mv (.t 46)), none⟩,
         ⟨some 47, (.ext (.t 41) 0), none⟩,
         ⟨some 48, (.ext (.t 41) 1), none⟩,
         ⟨some 49, (.ext (.t 41) 2), none⟩,
         ⟨some 13, (.alloc 13 [(.int .u8 0), (.int .u8 0), (.float 0), (.str (bs [])), (.int .i64 0), (.int .u8 0), (.float 0), (.str (bs [])), (.int .i64 0), (.int .u8 0), (.float 0), (.str (bs [])), (.int .i64 0), (.bool false), (.bool false), (.bool false)] none), none⟩,
         ⟨none, (.store 16 (.t 13) (.t 47)), none⟩,
         ⟨some 14, (.mv (.t 48)), none⟩,
         ⟨some 15, (.mv (.t 49)), none⟩])
       (.seq
        (.ops [
          ⟨some 51, (.mv (.t 0)), none⟩,
          ⟨some 52, (.load (some 16) (.t 5)), none⟩,
          ⟨some 53, (.mv (.t 2)), none⟩,
          ⟨some 54, (.load (some 16) (.t 7)), none⟩,
          ⟨some 55, (.call 58 [(.t 51), (.t 52), (.t 53), (.t 54)] (.p3 .dsc .bool (.int .i64)) []), none⟩,
          ⟨some 50, (.mv (.t 55)), none⟩,
          ⟨some 56, (.ext (.t 50) 0), none⟩,
          ⟨some 57, (.ext (.t 50) 1), none⟩,
          ⟨some 58, (.ext (.t 50) 2), none⟩,
          ⟨some 16, (.alloc 16 [(.int .u8 0), (.int .u8 0), (.float 0), (.str (bs [])), (.int .i64 0), (.int .u8 0), (.float 0), (.str (bs [])), (.int .i64 0), (.int .u8 0), (.float 0), (.str (bs [])), (.int .i64 0), (.bool false), (.bool false), (.bool false)] none), none⟩,
          ⟨none, (.store 16 (.t 16) (.t 56)), none⟩,
          ⟨some 17, (.mv (.t 57)), none⟩,
          ⟨some 18, (.mv (.t 58)), none⟩])
        (.seq
  (.opsc [
    ⟨some 59, (.mv (.t 9)), none⟩,
    ⟨some 60, (.mv (.t 11)), none⟩,
    ⟨some 61, (.eqb false (.t 59) (.t 60)), none⟩,
    ⟨some 62, (.mv (.t 61)), none⟩,
    ⟨some 63, (.mv (.t 10)), some (62, true)⟩,
    ⟨some 64, (.mv (.t 12)), some (62, true)⟩,
    ⟨some 65, (.bini .eql (.t 63) (.t 64)), some (62, true)⟩,
    ⟨some 66, (.pick (.t 62) (.t 65) (.c (.bool false))), none⟩] [13, 14, 15, 16, 17, 18, 66] [13, 16] t4)
         .ret)))))))
def bailifflaw09_DescTwos.body : DC := bailifflaw09_DescTwos.bodyX bailifflaw09_DescTwos.t0 bailifflaw09_DescTwos.t1 bailifflaw09_DescTwos.t2 bailifflaw09_DescTwos.t3 bailifflaw09_DescTwos.t4
def bailifflaw09_DescTwos : FD := ⟨4, [.tmp 8], bailifflaw09_DescTwos.body⟩
/-- 4 bailiff/bailifflaw09.long -/
def bailifflaw09_long.tX0 (t0 t1 : DC) : DC :=
  (.ops [
    ⟨some 2, (.mv (.t 21)), none⟩])
def bailifflaw09_long.t0 : DC := bailifflaw09_long.tX0 .skip .skip
def bailifflaw09_long.tX1 (t0 t1 : DC) : DC :=
  (.opsc [
    ⟨some 15, (.mv (.t 14)), none⟩,
    ⟨some 16, (.faddr 9 (.t 1)), some (15, false)⟩,
    ⟨some 17, (.faddr 2 (.t 16)), some (15, false)⟩,
    ⟨some 18, (.load none (.t 17)), some (15, false)⟩,
    ⟨some 19, (.len true (.t 18)), some (15, false)⟩,
    ⟨some 20, (.bini .gtr (.t 19) (.c (.int .i64 9000))), some (15, false)⟩,
    ⟨some 21, (.pick (.t 15) (.c (.bool true)) (.t 20)), none⟩] [21] [] t0)
def bailifflaw09_long.t1 : DC := bailifflaw09_long.tX1 bailifflaw09_long.t0 .skip
def bailifflaw09_long.bodyX (t0 t1 : DC) : DC :=
  (.seq
   (.ops [
     ⟨some 1, (.box 1 (.t 0)), none⟩,
     ⟨some 2, (.mv (.c (.bool false))), none⟩])
   (.seq
  (.opsc [
    ⟨some 3, (.faddr 1 (.t 1)), none⟩,
    ⟨some 4, (.faddr 2 (.t 3)), none⟩,
    ⟨some 5, (.load none (.t 4)), none⟩,
    ⟨some 6, (.len true (.t 5)), none⟩,
    ⟨some 7, (.bini .gtr (.t 6) (.c (.int .i64 9000))), none⟩,
    ⟨some 8, (.mv (.t 7)), none⟩,
    ⟨some 9, (.faddr 5 (.t 1)), some (8, false)⟩,
    ⟨some 10, (.faddr 2 (.t 9)), some (8, false)⟩,
    ⟨some 11, (.load none (.t 10)), some (8, false)⟩,
    ⟨some 12, (.len true (.t 11)), some (8, false)⟩,
    ⟨some 13, (.bini .gtr (.t 12) (.c (.int .i64 9000))), some (8, false)⟩,
    ⟨some 14, (.pick (.t 8) (.c (.bool true)) (.t 13)), none⟩] [1, 14] [1] t1)
    .ret))
def bailifflaw09_long.body : DC := bailifflaw09_long.bodyX bailifflaw09_long.t0 bailifflaw09_long.t1
def bailifflaw09_long : FD := ⟨1, [.tmp 2], bailifflaw09_long.body⟩
/-- 40 bailiff/bailiffref01.May -/
def bailiffref01_May.tX0 (t0 : DC) : DC :=
  (.ops [
    ⟨some 2, (.mv (.t 15)), none⟩])
def bailiffref01_May.t0 : DC := bailiffref01_May.tX0 .skip
def bailiffref01_May.bodyX (t0 : DC) : DC :=
  (.seq
   (.ops [
     ⟨some 2, (.mv (.c (.bool false))), none⟩])
   (.seq
    (.ops [
      ⟨some 6, (.mv (.t 0)), none⟩,
      ⟨some 7, (.call 44 [(.t 6)] (.p2 (.int .i64) .bool) []), none⟩,
      ⟨some 5, (.mv (.t 7)), none⟩,
      ⟨some 8, (.ext (.t 5) 0), none⟩,
      ⟨some 9, (.ext (.t 5) 1), none⟩,
      ⟨some 3, (.mv (.t 8)), none⟩,
      ⟨some 4, (.mv (.t 9)), none⟩])
    (.seq
  (.opsc [
    ⟨some 10, (.mv (.t 4)), none⟩,
    ⟨some 11, (.mv (.t 10)), none⟩,
    ⟨some 12, (.mv (.t 0)), some (11, false)⟩,
    ⟨some 13, (.mv (.t 0)), some (11, false)⟩,
    ⟨some 14, (.binf .neq (.t 12) (.t 13)), some (11, false)⟩,
    ⟨some 15, (.pick (.t 11) (.c (.bool true)) (.t 14)), none⟩] [15] [] t0)
     .ret)))
def bailiffref01_May.body : DC := bailiffref01_May.bodyX bailiffref01_May.t0
def bailiffref01_May : FD := ⟨1, [.tmp 2], bailiffref01_May.body⟩
/-- 42 bailiff/bailiffref01.Same -/
def bailiffref01_Same.tX0 (t0 t1 t2 : DC) : DC :=
  (.ops [
    ⟨some 4, (.mv (.t 20)), none⟩])
def bailiffref01_Same.t0 : DC := bailiffref01_Same.tX0 .skip .skip .skip
def bailiffref01_Same.tX1 (t0 t1 t2 : DC) : DC :=
     (.cond (.t 12)
      (.seq
  (.opsc [
    ⟨some 13, (.mv (.t 0)), none⟩,
    ⟨some 14, (.mv (.t 0)), none⟩,
    ⟨some 15, (.binf .neq (.t 13) (.t 14)), none⟩,
    ⟨some 16, (.mv (.t 15)), none⟩,
    ⟨some 17, (.mv (.t 1)), some (16, true)⟩,
    ⟨some 18, (.mv (.t 1)), some (16, true)⟩,
    ⟨some 19, (.binf .neq (.t 17) (.t 18)), some (16, true)⟩,
    ⟨some 20, (.pick (.t 16) (.t 19) (.c (.bool false))), none⟩] [20] [] t0)
       .ret)
      .skip)
def bailiffref01_Same.t1 : DC := bailiffref01_Same.tX1 bailiffref01_Same.t0 .skip .skip
def bailiffref01_Same.sX1 (t : DC) : DC := .kp [0, 1, 12] [] t
def bailiffref01_Same.tX2 (t0 t1 t2 : DC) : DC :=
  (.ops [
    ⟨some 4, (.mv (.t 34)), none⟩])
def bailiffref01_Same.t2 : DC := bailiffref01_Same.tX2 bailiffref01_Same.t0 bailiffref01_Same.t1 .skip
def bailiffref01_Same.bodyX (t0 t1 t2 : DC) : DC :=
  (.seq
   (.ops [
     ⟨some 4, (.mv (.c (.bool false))), none⟩])
   (.seq
    (.seq
     (.ops [
       ⟨some 5, (.mv (.t 0)), none⟩,
       ⟨some 6, (.mv (.t 0)), none⟩,
       ⟨some 7, (.binf .neq (.t 5) (.t 6)), none⟩,
       ⟨some 8, (.mv (.t 7)), none⟩,
       ⟨some 9, (.mv (.t 1)), some (8, false)⟩,
       ⟨some 10, (.mv (.t 1)), some (8, false)⟩,
       ⟨some 11, (.binf .neq (.t 9) (.t 10)), some (8, false)⟩,
       ⟨some 12, (.pick (.t 8) (.c (.bool true)) (.t 11)), none⟩])
     (bailiffref01_Same.sX1 t1))
    (.seq
  (.opsc [
    ⟨some 21, (.mv (.t 0)), none⟩,
    ⟨some 22, (.mv (.t 1)), none⟩,
    ⟨some 23, (.binf .eql (.t 21) (.t 22)), none⟩,
    ⟨some 24, (.mv (.t 23)), none⟩,
    ⟨some 25, (.mv (.t 0)), some (24, true)⟩,
    ⟨some 26, (.binf .neq (.t 25) (.c (.float 0))), some (24, true)⟩,
    ⟨some 27, (.mv (.t 26)), some (24, true)⟩,
    ⟨some 28, (.mv (.t 0)), some (27, false)⟩,
    ⟨some 29, (.fdiv (.c (.float 4607182418800017408)) (.t 28)), some (27, false)⟩,
    ⟨some 30, (.mv (.t 1)), some (27, false)⟩,
    ⟨some 31, (.fdiv (.c (.float 4607182418800017408)) (.t 30)), some (27, false)⟩,
    ⟨some 32, (.binf .eql (.t 29) (.t 31)), some (27, false)⟩,
    ⟨some 33, (.pick (.t 27) (.c (.bool true)) (.t 32)), some (24, true)⟩,
    ⟨some 34, (.pick (.t 24) (.t 33) (.c (.bool false))), none⟩] [34] [] t2)
     .ret)))
def bailiffref01_Same.body : DC := bailiffref01_Same.bodyX bailiffref01_Same.t0 bailiffref01_Same.t1 bailiffref01_Same.t2
def bailiffref01_Same : FD := ⟨2, [.tmp 4], bailiffref01_Same.body⟩
/-- 44 bailiff/bailiffref01.whole -/
def bailiffref01_whole.tX0 (t0 t1 t2 : DC) : DC :=
  (.ops [
    ⟨some 11, (.not (.t 10)), none⟩])
def bailiffref01_whole.t0 : DC := bailiffref01_whole.tX0 .skip .skip .skip
def bailiffref01_whole.tX1 (t0 t1 t2 : DC) : DC :=
     (.cond (.t 11)
      (.seq
       (.ops [
         ⟨some 2, (.mv (.c (.int .i64 0))), none⟩,
         ⟨some 3, (.mv (.c (.bool false))), none⟩])
       .ret)
      .skip)
def bailiffref01_whole.t1 : DC := bailiffref01_whole.tX1 bailiffref01_whole.t0 .skip .skip
def bailiffref01_whole.sX1 (t : DC) : DC := .kp [0, 11] [] t
def bailiffref01_whole.tX2 (t0 t1 t2 : DC) : DC :=
       (.cond (.t 26)
        (.seq
         (.ops [
           ⟨some 2, (.mv (.c (.int .i64 0))), none⟩,
           ⟨some 3, (.mv (.c (.bool false))), none⟩])
         .ret)
        .skip)
def bailiffref01_whole.t2 : DC := bailiffref01_whole.tX2 bailiffref01_whole.t0 bailiffref01_whole.t1 .skip
def bailiffref01_whole.sX2 (t : DC) : DC := .kp [4, 26] [] t
def bailiffref01_whole.bodyX (t0 t1 t2 : DC) : DC :=
  (.seq
   (.ops [
     ⟨some 2, (.mv (.c (.int .i64 0))), none⟩,
     ⟨some 3, (.mv (.c (.bool false))), none⟩])
   (.seq
    (.seq
  (.opsc [
    ⟨some 5, (.mv (.t 0)), none⟩,
    ⟨some 6, (.binf .geq (.t 5) (.c (.float 14069245235905429503))), none⟩,
    ⟨some 7, (.mv (.t 6)), none⟩,
    ⟨some 8, (.mv (.t 0)), some (7, true)⟩,
    ⟨some 9, (.binf .leq (.t 8) (.c (.float 4845873199050653695))), some (7, true)⟩,
    ⟨some 10, (.pick (.t 7) (.t 9) (.c (.bool false))), none⟩] [0, 10] [] t0)
     (bailiffref01_whole.sX1 t1))
    (.seq
     (.ops [
       ⟨some 12, (.mv (.t 0)), none⟩,
       ⟨some 13, (.f2i .i64 (.t 12)), none⟩,
       ⟨some 4, (.mv (.t 13)), none⟩])
     (.seq
      (.seq
       (.ops [
         ⟨some 14, (.mv (.t 4)), none⟩,
         ⟨some 15, (.i2f (.t 14)), none⟩,
         ⟨some 16, (.mv (.t 0)), none⟩,
         ⟨some 17, (.binf .neq (.t 15) (.t 16)), none⟩,
         ⟨some 18, (.mv (.t 17)), none⟩,
         ⟨some 19, (.mv (.t 0)), some (18, false)⟩,
         ⟨some 20, (.binf .eql (.t 19) (.c (.float 0))), some (18, false)⟩,
         ⟨some 21, (.mv (.t 20)), some (18, false)⟩,
         ⟨some 22, (.mv (.t 0)), some (21, true)⟩,
         ⟨some 23, (.fdiv (.c (.float 4607182418800017408)) (.t 22)), some (21, true)⟩,
         ⟨some 24, (.binf .lss (.t 23) (.c (.float 0))), some (21, true)⟩,
         ⟨some 25, (.pick (.t 21) (.t 24) (.c (.bool false))), some (18, false)⟩,
         ⟨some 26, (.pick (.t 18) (.c (.bool true)) (.t 25)), none⟩])
       (bailiffref01_whole.sX2 t2))
      (.seq
       (.ops [
         ⟨some 27, (.mv (.t 4)), none⟩,
         ⟨some 2, (.mv (.t 27)), none⟩,
         ⟨some 3, (.mv (.c (.bool true))), none⟩])
       .ret)))))
def bailiffref01_whole.body : DC := bailiffref01_whole.bodyX bailiffref01_whole.t0 bailiffref01_whole.t1 bailiffref01_whole.t2
def bailiffref01_whole : FD := ⟨1, [.tmp 2, .tmp 3], bailiffref01_whole.body⟩
/-- 45 bailiff/bailiffref07.Alike -/
def bailiffref07_Alike.tX0 (t0 t1 t2 : DC) : DC :=
  (.ops [
    ⟨some 4, (.mv (.t 30)), none⟩])
def bailiffref07_Alike.t0 : DC := bailiffref07_Alike.tX0 .skip .skip .skip
def bailiffref07_Alike.tX1 (t0 t1 t2 : DC) : DC :=
  (.opsc [
    ⟨some 24, (.mv (.t 23)), none⟩,
    ⟨some 25, (.faddr 1 (.t 2)), some (24, true)⟩,
    ⟨some 26, (.load none (.t 25)), some (24, true)⟩,
    ⟨some 27, (.faddr 1 (.t 3)), some (24, true)⟩,
    ⟨some 28, (.load none (.t 27)), some (24, true)⟩,
    ⟨some 29, (.call 42 [(.t 26), (.t 28)] .bool []), some (24, true)⟩,
    ⟨some 30, (.pick (.t 24) (.t 29) (.c (.bool false))), none⟩] [30] [] t0)
def bailiffref07_Alike.t1 : DC := bailiffref07_Alike.tX1 bailiffref07_Alike.t0 .skip .skip
def bailiffref07_Alike.tX2 (t0 t1 t2 : DC) : DC :=
  (.opsc [
    ⟨some 17, (.mv (.t 16)), none⟩,
    ⟨some 18, (.faddr 3 (.t 2)), some (17, true)⟩,
    ⟨some 19, (.load none (.t 18)), some (17, true)⟩,
    ⟨some 20, (.faddr 3 (.t 3)), some (17, true)⟩,
    ⟨some 21, (.load none (.t 20)), some (17, true)⟩,
    ⟨some 22, (.bini .eql (.t 19) (.t 21)), some (17, true)⟩,
    ⟨some 23, (.pick (.t 17) (.t 22) (.c (.bool false))), none⟩] [2, 3, 23] [2, 3] t1)
def bailiffref07_Alike.t2 : DC := bailiffref07_Alike.tX2 bailiffref07_Alike.t0 bailiffref07_Alike.t1 .skip
def bailiffref07_Alike.bodyX (t0 t1 t2 : DC) : DC :=
  (.seq
   (.ops [
     ⟨some 2, (.box 2 (.t 0)), none⟩,
     ⟨some 3, (.box 3 (.t 1)), none⟩,
     ⟨some 4, (.mv (.c (.bool false))), none⟩])
   (.seq
  (.opsc [
    ⟨some 5, (.faddr 0 (.t 2)), none⟩,
    ⟨some 6, (.load none (.t 5)), none⟩,
    ⟨some 7, (.faddr 0 (.t 3)), none⟩,
    ⟨some 8, (.load none (.t 7)), none⟩,
    ⟨some 9, (.bini .eql (.t 6) (.t 8)), none⟩,
    ⟨some 10, (.mv (.t 9)), none⟩,
    ⟨some 11, (.faddr 2 (.t 2)), some (10, true)⟩,
    ⟨some 12, (.load none (.t 11)), some (10, true)⟩,
    ⟨some 13, (.faddr 2 (.t 3)), some (10, true)⟩,
    ⟨some 14, (.load none (.t 13)), some (10, true)⟩,
    ⟨some 15, (.bins .eql (.t 12) (.t 14)), some (10, true)⟩,
    ⟨some 16, (.pick (.t 10) (.t 15) (.c (.bool false))), none⟩] [2, 3, 16] [2, 3] t2)
    .ret))
def bailiffref07_Alike.body : DC := bailiffref07_Alike.bodyX bailiffref07_Alike.t0 bailiffref07_Alike.t1 bailiffref07_Alike.t2
def bailiffref07_Alike : FD := ⟨2, [.tmp 4], bailiffref07_Alike.body⟩
/-- 46 bailiff/bailiffref07.Calls -/
def bailiffref07_Calls.tX0 (t0 : DC) : DC :=
  (.ops [
    ⟨some 2, (.mv (.t 10)), none⟩])
def bailiffref07_Calls.t0 : DC := bailiffref07_Calls.tX0 .skip
def bailiffref07_Calls.bodyX (t0 : DC) : DC :=
  (.seq
   (.ops [
     ⟨some 1, (.box 1 (.t 0)), none⟩,
     ⟨some 2, (.mv (.c (.bool false))), none⟩])
   (.seq
  (.opsc [
    ⟨some 3, (.faddr 0 (.t 1)), none⟩,
    ⟨some 4, (.load none (.t 3)), none⟩,
    ⟨some 5, (.bini .eql (.t 4) (.c (.int .u8 7))), none⟩,
    ⟨some 6, (.mv (.t 5)), none⟩,
    ⟨some 7, (.faddr 0 (.t 1)), some (6, false)⟩,
    ⟨some 8, (.load none (.t 7)), some (6, false)⟩,
    ⟨some 9, (.bini .eql (.t 8) (.c (.int .u8 8))), some (6, false)⟩,
    ⟨some 10, (.pick (.t 6) (.c (.bool true)) (.t 9)), none⟩] [10] [] t0)
    .ret))
def bailiffref07_Calls.body : DC := bailiffref07_Calls.bodyX bailiffref07_Calls.t0
def bailiffref07_Calls : FD := ⟨1, [.tmp 2], bailiffref07_Calls.body⟩
/-- 47 bailiff/bailiffref07.IsObject -/
def bailiffref07_IsObject.tX0 (t0 t1 : DC) : DC :=
  (.ops [
    ⟨some 2, (.mv (.t 15)), none⟩])
def bailiffref07_IsObject.t0 : DC := bailiffref07_IsObject.tX0 .skip .skip
def bailiffref07_IsObject.tX1 (t0 t1 : DC) : DC :=
  (.opsc [
    ⟨some 11, (.mv (.t 10)), none⟩,
    ⟨some 12, (.faddr 0 (.t 1)), some (11, false)⟩,
    ⟨some 13, (.load none (.t 12)), some (11, false)⟩,
    ⟨some 14, (.bini .eql (.t 13) (.c (.int .u8 8))), some (11, false)⟩,
    ⟨some 15, (.pick (.t 11) (.c (.bool true)) (.t 14)), none⟩] [15] [] t0)
def bailiffref07_IsObject.t1 : DC := bailiffref07_IsObject.tX1 bailiffref07_IsObject.t0 .skip
def bailiffref07_IsObject.bodyX (t0 t1 : DC) : DC :=
  (.seq
   (.ops [
     ⟨some 1, (.box 1 (.t 0)), none⟩,
     ⟨some 2, (.mv (.c (.bool false))), none⟩])
   (.seq
  (.opsc [
    ⟨some 3, (.faddr 0 (.t 1)), none⟩,
    ⟨some 4, (.load none (.t 3)), none⟩,
    ⟨some 5, (.bini .eql (.t 4) (.c (.int .u8 6))), none⟩,
    ⟨some 6, (.mv (.t 5)), none⟩,
    ⟨some 7, (.faddr 0 (.t 1)), some (6, false)⟩,
    ⟨some 8, (.load none (.t 7)), some (6, false)⟩,
    ⟨some 9, (.bini .eql (.t 8) (.c (.int .u8 7))), some (6, false)⟩,
    ⟨some 10, (.pick (.t 6) (.c (.bool true)) (.t 9)), none⟩] [1, 10] [1] t1)
    .ret))
def bailiffref07_IsObject.body : DC := bailiffref07_IsObject.bodyX bailiffref07_IsObject.t0 bailiffref07_IsObject.t1
def bailiffref07_IsObject : FD := ⟨1, [.tmp 2], bailiffref07_IsObject.body⟩
/-- 48 bailiff/bailiffref07.May -/
def bailiffref07_May.tX0 (t0 t1 t2 t3 t4 t5 t6 t7 t8 : DC) : DC :=
  (.ops [
    ⟨some 3, (.mv (.t 20)), none⟩])
def bailiffref07_May.t0 : DC := bailiffref07_May.tX0 .skip .skip .skip .skip .skip .skip .skip .skip .skip
def bailiffref07_May.tX1 (t0 t1 t2 t3 t4 t5 t6 t7 t8 : DC) : DC :=
  (.ops [
    ⟨some 4, (.mv (.t 40)), none⟩])
def bailiffref07_May.t1 : DC := bailiffref07_May.tX1 bailiffref07_May.t0 .skip .skip .skip .skip .skip .skip .skip .skip
def bailiffref07_May.tX2 (t0 t1 t2 t3 t4 t5 t6 t7 t8 : DC) : DC :=
  (.ops [
    ⟨some 5, (.mv (.t 53)), none⟩])
def bailiffref07_May.t2 : DC := bailiffref07_May.tX2 bailiffref07_May.t0 bailiffref07_May.t1 .skip .skip .skip .skip .skip .skip .skip
def bailiffref07_May.tX3 (t0 t1 t2 t3 t4 t5 t6 t7 t8 : DC) : DC :=
  (.ops [
    ⟨some 2, (.mv (.t 60)), none⟩])
def bailiffref07_May.t3 : DC := bailiffref07_May.tX3 bailiffref07_May.t0 bailiffref07_May.t1 bailiffref07_May.t2 .skip .skip .skip .skip .skip .skip
def bailiffref07_May.tX4 (t0 t1 t2 t3 t4 t5 t6 t7 t8 : DC) : DC :=
  (.opsc [
    ⟨some 58, (.mv (.t 57)), none⟩,
    ⟨some 59, (.mv (.t 5)), some (58, true)⟩,
    ⟨some 60, (.pick (.t 58) (.t 59) (.c (.bool false))), none⟩] [60] [] t3)
def bailiffref07_May.t4 : DC := bailiffref07_May.tX4 bailiffref07_May.t0 bailiffref07_May.t1 bailiffref07_May.t2 bailiffref07_May.t3 .skip .skip .skip .skip .skip
def bailiffref07_May.tX5 (t0 t1 t2 t3 t4 t5 t6 t7 t8 : DC) : DC :=
         (.seq
  (.opsc [
    ⟨some 54, (.mv (.t 3)), none⟩,
    ⟨some 55, (.mv (.t 54)), none⟩,
    ⟨some 56, (.mv (.t 4)), some (55, true)⟩,
    ⟨some 57, (.pick (.t 55) (.t 56) (.c (.bool false))), none⟩] [5, 57] [] t4)
          .ret)
def bailiffref07_May.t5 : DC := bailiffref07_May.tX5 bailiffref07_May.t0 bailiffref07_May.t1 bailiffref07_May.t2 bailiffref07_May.t3 bailiffref07_May.t4 .skip .skip .skip .skip
def bailiffref07_May.sX5 (t : DC) : DC := .kp [3, 4, 5] [] t
def bailiffref07_May.tX6 (t0 t1 t2 t3 t4 t5 t6 t7 t8 : DC) : DC :=
        (.seq
  (.opsc [
    ⟨some 41, (.faddr 3 (.t 1)), none⟩,
    ⟨some 42, (.load none (.t 41)), none⟩,
    ⟨some 43, (.bini .eql (.t 42) (.c (.int .i64 0))), none⟩,
    ⟨some 44, (.mv (.t 43)), none⟩,
    ⟨some 45, (.faddr 0 (.t 1)), some (44, false)⟩,
    ⟨some 46, (.load none (.t 45)), some (44, false)⟩,
    ⟨some 47, (.bini .geq (.t 46) (.c (.int .u8 5))), some (44, false)⟩,
    ⟨some 48, (.mv (.t 47)), some (44, false)⟩,
    ⟨some 49, (.faddr 3 (.t 1)), some (48, true)⟩,
    ⟨some 50, (.load none (.t 49)), some (48, true)⟩,
    ⟨some 51, (.bini .gtr (.t 50) (.c (.int .i64 0))), some (48, true)⟩,
    ⟨some 52, (.pick (.t 48) (.t 51) (.c (.bool false))), some (44, false)⟩,
    ⟨some 53, (.pick (.t 44) (.c (.bool true)) (.t 52)), none⟩] [3, 4, 53] [] t2)
         (bailiffref07_May.sX5 t5))
def bailiffref07_May.t6 : DC := bailiffref07_May.tX6 bailiffref07_May.t0 bailiffref07_May.t1 bailiffref07_May.t2 bailiffref07_May.t3 bailiffref07_May.t4 bailiffref07_May.t5 .skip .skip .skip
def bailiffref07_May.sX6 (t : DC) : DC := .kp [1, 3, 4] [1] t
def bailiffref07_May.tX7 (t0 t1 t2 t3 t4 t5 t6 t7 t8 : DC) : DC :=
       (.seq
  (.opsc [
    ⟨some 27, (.faddr 2 (.t 1)), none⟩,
    ⟨some 28, (.load none (.t 27)), none⟩,
    ⟨some 29, (.bins .eql (.t 28) (.c (.str (bs [])))), none⟩,
    ⟨some 30, (.mv (.t 29)), none⟩,
    ⟨some 31, (.faddr 0 (.t 1)), some (30, false)⟩,
    ⟨some 32, (.load none (.t 31)), some (30, false)⟩,
    ⟨some 33, (.bini .eql (.t 32) (.c (.int .u8 4))), some (30, false)⟩,
    ⟨some 34, (.mv (.t 33)), some (30, false)⟩,
    ⟨some 35, (.faddr 2 (.t 1)), some (34, true)⟩,
    ⟨some 36, (.load none (.t 35)), some (34, true)⟩,
    ⟨some 37, (.len true (.t 36)), some (34, true)⟩,
    ⟨some 38, (.bini .leq (.t 37) (.c (.int .i64 4096))), some (34, true)⟩,
    ⟨some 39, (.pick (.t 34) (.t 38) (.c (.bool false))), some (30, false)⟩,
    ⟨some 40, (.pick (.t 30) (.c (.bool true)) (.t 39)), none⟩] [1, 3, 40] [1] t1)
        (bailiffref07_May.sX6 t6))
def bailiffref07_May.t7 : DC := bailiffref07_May.tX7 bailiffref07_May.t0 bailiffref07_May.t1 bailiffref07_May.t2 bailiffref07_May.t3 bailiffref07_May.t4 bailiffref07_May.t5 bailiffref07_May.t6 .skip .skip
def bailiffref07_May.sX7 (t : DC) : DC := .kp [1, 3] [1] t
def bailiffref07_May.tX8 (t0 t1 t2 t3 t4 t5 t6 t7 t8 : DC) : DC :=
      (.seq
       (.seq
        (.ops [
          ⟨some 21, (.faddr 0 (.t 1)), none⟩,
          ⟨some 22, (.load none (.t 21)), none⟩,
          ⟨some 23, (.bini .eql (.t 22) (.c (.int .u8 3))), none⟩])
        (.cond (.t 23)
         (.ops [
           ⟨some 24, (.faddr 1 (.t 1)), none⟩,
           ⟨some 25, (.load none (.t 24)), none⟩,
           ⟨some 26, (.call 40 [(.t 25)] .bool []), none⟩,
           ⟨some 3, (.mv (.t 26)), none⟩])
         .skip))
       (bailiffref07_May.sX7 t7))
def bailiffref07_May.t8 : DC := bailiffref07_May.tX8 bailiffref07_May.t0 bailiffref07_May.t1 bailiffref07_May.t2 bailiffref07_May.t3 bailiffref07_May.t4 bailiffref07_May.t5 bailiffref07_May.t6 bailiffref07_May.t7 .skip
def bailiffref07_May.sX8 (t : DC) : DC := .kp [1, 3] [1] t
def bailiffref07_May.bodyX (t0 t1 t2 t3 t4 t5 t6 t7 t8 : DC) : DC :=
  (.seq
   (.ops [
     ⟨some 1, (.box 1 (.t 0)), none⟩,
     ⟨some 2, (.mv (.c (.bool false))), none⟩])
   (.seq
    (.seq
     (.ops [
       ⟨some 6, (.faddr 0 (.t 1)), none⟩,
       ⟨some 7, (.load none (.t 6)), none⟩,
       ⟨some 8, (.bini .gtr (.t 7) (.c (.int .u8 8))), none⟩])
     (.cond (.t 8)
      (.seq
       (.ops [
         ⟨some 2, (.mv (.c (.bool false))), none⟩])
       .ret)
      .skip))
    (.seq
     (.ops [
       ⟨some 9, (.faddr 1 (.t 1)), none⟩,
       ⟨some 10, (.load none (.t 9)), none⟩,
       ⟨some 11, (.call 53 [(.t 10)] .bool []), none⟩,
       ⟨some 3, (.mv (.t 11)), none⟩])
     (.seq
      (.seq
       (.ops [
         ⟨some 12, (.faddr 0 (.t 1)), none⟩,
         ⟨some 13, (.load none (.t 12)), none⟩,
         ⟨some 14, (.bini .eql (.t 13) (.c (.int .u8 2))), none⟩])
       (.cond (.t 14)
  (.opsc [
    ⟨some 15, (.mv (.t 3)), none⟩,
    ⟨some 16, (.mv (.t 15)), none⟩,
    ⟨some 17, (.faddr 1 (.t 1)), some (16, false)⟩,
    ⟨some 18, (.load none (.t 17)), some (16, false)⟩,
    ⟨some 19, (.binf .eql (.t 18) (.c (.float 4607182418800017408))), some (16, false)⟩,
    ⟨some 20, (.pick (.t 16) (.c (.bool true)) (.t 19)), none⟩] [1, 20] [1] t0)
        .skip))
      (bailiffref07_May.sX8 t8)))))
def bailiffref07_May.body : DC := bailiffref07_May.bodyX bailiffref07_May.t0 bailiffref07_May.t1 bailiffref07_May.t2 bailiffref07_May.t3 bailiffref07_May.t4 bailiffref07_May.t5 bailiffref07_May.t6 bailiffref07_May.t7 bailiffref07_May.t8
def bailiffref07_May : FD := ⟨1, [.tmp 2], bailiffref07_May.body⟩
/-- 50 bailiff/bailiffref07.Same -/
def bailiffref07_Same.tX0 (t0 t1 t2 : DC) : DC :=
     (.cond (.t 10)
      (.seq
       (.ops [
         ⟨some 11, (.faddr 3 (.t 2)), none⟩,
         ⟨some 12, (.load none (.t 11)), none⟩,
         ⟨some 13, (.faddr 3 (.t 3)), none⟩,
         ⟨some 14, (.load none (.t 13)), none⟩,
         ⟨some 15, (.bini .eql (.t 12) (.t 14)), none⟩,
         ⟨some 4, (.mv (.t 15)), none⟩])
       .ret)
      .skip)
def bailiffref07_Same.t0 : DC := bailiffref07_Same.tX0 .skip .skip .skip
def bailiffref07_Same.sX0 (t : DC) : DC := .kp [2, 3, 10] [2, 3] t
def bailiffref07_Same.tX1 (t0 t1 t2 : DC) : DC :=
  (.ops [
    ⟨some 4, (.mv (.t 53)), none⟩])
def bailiffref07_Same.t1 : DC := bailiffref07_Same.tX1 bailiffref07_Same.t0 .skip .skip
def bailiffref07_Same.tX2 (t0 t1 t2 : DC) : DC :=
         (.cond (.t 23)
          (.seq
           (.ops [
             ⟨some 4, (.mv (.c (.bool true))), none⟩])
           .ret)
          (.seq
           (.ops [
             ⟨some 27, (.bini .eql (.t 22) (.c (.int .u8 2))), none⟩,
             ⟨some 26, (.mv (.t 27)), none⟩])
           (.cond (.t 26)
            (.seq
             (.ops [
               ⟨some 28, (.faddr 1 (.t 2)), none⟩,
               ⟨some 29, (.load none (.t 28)), none⟩,
               ⟨some 30, (.faddr 1 (.t 3)), none⟩,
               ⟨some 31, (.load none (.t 30)), none⟩,
               ⟨some 32, (.binf .eql (.t 29) (.t 31)), none⟩,
               ⟨some 4, (.mv (.t 32)), none⟩])
             .ret)
            (.seq
             (.ops [
               ⟨some 34, (.bini .eql (.t 22) (.c (.int .u8 3))), none⟩,
               ⟨some 33, (.mv (.t 34)), none⟩])
             (.cond (.t 33)
              (.seq
  (.opsc [
    ⟨some 35, (.faddr 1 (.t 2)), none⟩,
    ⟨some 36, (.load none (.t 35)), none⟩,
    ⟨some 37, (.faddr 1 (.t 3)), none⟩,
    ⟨some 38, (.load none (.t 37)), none⟩,
    ⟨some 39, (.binf .eql (.t 36) (.t 38)), none⟩,
    ⟨some 40, (.mv (.t 39)), none⟩,
    ⟨some 41, (.faddr 1 (.t 2)), some (40, false)⟩,
    ⟨some 42, (.load none (.t 41)), some (40, false)⟩,
    ⟨some 43, (.faddr 1 (.t 2)), some (40, false)⟩,
    ⟨some 44, (.load none (.t 43)), some (40, false)⟩,
    ⟨some 45, (.binf .neq (.t 42) (.t 44)), some (40, false)⟩,
    ⟨some 46, (.mv (.t 45)), some (40, false)⟩,
    ⟨some 47, (.faddr 1 (.t 3)), some (46, true)⟩,
    ⟨some 48, (.load none (.t 47)), some (46, true)⟩,
    ⟨some 49, (.faddr 1 (.t 3)), some (46, true)⟩,
    ⟨some 50, (.load none (.t 49)), some (46, true)⟩,
    ⟨some 51, (.binf .neq (.t 48) (.t 50)), some (46, true)⟩,
    ⟨some 52, (.pick (.t 46) (.t 51) (.c (.bool false))), some (40, false)⟩,
    ⟨some 53, (.pick (.t 40) (.c (.bool true)) (.t 52)), none⟩] [53] [] t1)
               .ret)
              (.seq
               (.ops [
                 ⟨some 55, (.bini .eql (.t 22) (.c (.int .u8 4))), none⟩,
                 ⟨some 54, (.mv (.t 55)), none⟩])
               (.cond (.t 54)
                (.seq
                 (.ops [
                   ⟨some 56, (.faddr 2 (.t 2)), none⟩,
                   ⟨some 57, (.load none (.t 56)), none⟩,
                   ⟨some 58, (.faddr 2 (.t 3)), none⟩,
                   ⟨some 59, (.load none (.t 58)), none⟩,
                   ⟨some 60, (.bins .eql (.t 57) (.t 59)), none⟩,
                   ⟨some 4, (.mv (.t 60)), none⟩])
                 .ret)
                (.seq
                 (.ops [
                   ⟨some 62, (.bini .eql (.t 22) (.c (.int .u8 5))), none⟩,
                   ⟨some 61, (.mv (.t 62)), none⟩])
                 (.cond (.t 61)
                  (.seq
                   (.ops [
                     ⟨some 63, (.faddr 3 (.t 2)), none⟩,
                     ⟨some 64, (.load none (.t 63)), none⟩,
                     ⟨some 65, (.faddr 3 (.t 3)), none⟩,
                     ⟨some 66, (.load none (.t 65)), none⟩,
                     ⟨some 67, (.bini .eql (.t 64) (.t 66)), none⟩,
                     ⟨some 4, (.mv (.t 67)), none⟩])
                   .ret)
                  .skip)))))))))
def bailiffref07_Same.t2 : DC := bailiffref07_Same.tX2 bailiffref07_Same.t0 bailiffref07_Same.t1 .skip
def bailiffref07_Same.sX2 (t : DC) : DC := .kp [2, 3, 22, 23] [2, 3] t
def bailiffref07_Same.bodyX (t0 t1 t2 : DC) : DC :=
  (.seq
   (.ops [
     ⟨some 2, (.box 2 (.t 0)), none⟩,
     ⟨some 3, (.box 3 (.t 1)), none⟩,
     ⟨some 4, (.mv (.c (.bool false))), none⟩])
   (.seq
    (.seq
     (.ops [
       ⟨some 5, (.load (some 4) (.t 2)), none⟩,
       ⟨some 6, (.call 47 [(.t 5)] .bool []), none⟩,
       ⟨some 7, (.mv (.t 6)), none⟩,
       ⟨some 8, (.load (some 4) (.t 3)), some (7, true)⟩,
       ⟨some 9, (.call 47 [(.t 8)] .bool []), some (7, true)⟩,
       ⟨some 10, (.pick (.t 7) (.t 9) (.c (.bool false))), none⟩])
     (bailiffref07_Same.sX0 t0))
    (.seq
     (.seq
      (.ops [
        ⟨some 16, (.faddr 0 (.t 2)), none⟩,
        ⟨some 17, (.load none (.t 16)), none⟩,
        ⟨some 18, (.faddr 0 (.t 3)), none⟩,
        ⟨some 19, (.load none (.t 18)), none⟩,
        ⟨some 20, (.bini .neq (.t 17) (.t 19)), none⟩])
      (.cond (.t 20)
       (.seq
        (.ops [
          ⟨some 4, (.mv (.c (.bool false))), none⟩])
        .ret)
       .skip))
     (.seq
      (.seq
       (.ops [
         ⟨some 21, (.faddr 0 (.t 2)), none⟩,
         ⟨some 22, (.load none (.t 21)), none⟩])
       (.block 0
        (.seq
         (.seq
          (.ops [
            ⟨some 24, (.bini .eql (.t 22) (.c (.int .u8 0))), none⟩,
            ⟨some 23, (.mv (.t 24)), none⟩])
          (.cond (.t 23)
           .skip
           (.ops [
             ⟨some 25, (.bini .eql (.t 22) (.c (.int .u8 1))), none⟩,
             ⟨some 23, (.mv (.t 25)), none⟩])))
         (bailiffref07_Same.sX2 t2))))
      (.seq
       (.ops [
         ⟨some 4, (.mv (.c (.bool false))), none⟩])
       .ret)))))
def bailiffref07_Same.body : DC := bailiffref07_Same.bodyX bailiffref07_Same.t0 bailiffref07_Same.t1 bailiffref07_Same.t2
def bailiffref07_Same : FD := ⟨2, [.tmp 4], bailiffref07_Same.body⟩
/-- 53 bailiff/bailiffref07.nought -/
def bailiffref07_nought.tX0 (t0 : DC) : DC :=
  (.ops [
    ⟨some 2, (.mv (.t 9)), none⟩])
def bailiffref07_nought.t0 : DC := bailiffref07_nought.tX0 .skip
def bailiffref07_nought.bodyX (t0 : DC) : DC :=
  (.seq
   (.ops [
     ⟨some 2, (.mv (.c (.bool false))), none⟩])
   (.seq
  (.opsc [
    ⟨some 3, (.mv (.t 0)), none⟩,
    ⟨some 4, (.binf .eql (.t 3) (.c (.float 0))), none⟩,
    ⟨some 5, (.mv (.t 4)), none⟩,
    ⟨some 6, (.mv (.t 0)), some (5, true)⟩,
    ⟨some 7, (.fdiv (.c (.float 4607182418800017408)) (.t 6)), some (5, true)⟩,
    ⟨some 8, (.binf .gtr (.t 7) (.c (.float 0))), some (5, true)⟩,
    ⟨some 9, (.pick (.t 5) (.t 8) (.c (.bool false))), none⟩] [9] [] t0)
    .ret))
def bailiffref07_nought.body : DC := bailiffref07_nought.bodyX bailiffref07_nought.t0
def bailiffref07_nought : FD := ⟨1, [.tmp 2], bailiffref07_nought.body⟩
/-- 57 bailiff/bailiffref09.Alike -/
def bailiffref09_Alike.tX0 (t0 t1 t2 t3 t4 t5 t6 : DC) : DC :=
  (.ops [
    ⟨some 5, (.mv (.t 31)), none⟩])
def bailiffref09_Alike.t0 : DC := bailiffref09_Alike.tX0 .skip .skip .skip .skip .skip .skip .skip
def bailiffref09_Alike.tX1 (t0 t1 t2 t3 t4 t5 t6 : DC) : DC :=
  (.opsc [
    ⟨some 25, (.mv (.t 24)), none⟩,
    ⟨some 26, (.faddr 15 (.t 2)), some (25, true)⟩,
    ⟨some 27, (.load none (.t 26)), some (25, true)⟩,
    ⟨some 28, (.faddr 15 (.t 3)), some (25, true)⟩,
    ⟨some 29, (.load none (.t 28)), some (25, true)⟩,
    ⟨some 30, (.eqb false (.t 27) (.t 29)), some (25, true)⟩,
    ⟨some 31, (.pick (.t 25) (.t 30) (.c (.bool false))), none⟩] [2, 3, 31] [2, 3] t0)
def bailiffref09_Alike.t1 : DC := bailiffref09_Alike.tX1 bailiffref09_Alike.t0 .skip .skip .skip .skip .skip .skip
def bailiffref09_Alike.tX2 (t0 t1 t2 t3 t4 t5 t6 : DC) : DC :=
  (.opsc [
    ⟨some 18, (.mv (.t 17)), none⟩,
    ⟨some 19, (.faddr 14 (.t 2)), some (18, true)⟩,
    ⟨some 20, (.load none (.t 19)), some (18, true)⟩,
    ⟨some 21, (.faddr 14 (.t 3)), some (18, true)⟩,
    ⟨some 22, (.load none (.t 21)), some (18, true)⟩,
    ⟨some 23, (.eqb false (.t 20) (.t 22)), some (18, true)⟩,
    ⟨some 24, (.pick (.t 18) (.t 23) (.c (.bool false))), none⟩] [2, 3, 24] [2, 3] t1)
def bailiffref09_Alike.t2 : DC := bailiffref09_Alike.tX2 bailiffref09_Alike.t0 bailiffref09_Alike.t1 .skip .skip .skip .skip .skip
def bailiffref09_Alike.tX3 (t0 t1 t2 t3 t4 t5 t6 : DC) : DC :=
  (.ops [
    ⟨some 4, (.mv (.t 53)), none⟩])
def bailiffref09_Alike.t3 : DC := bailiffref09_Alike.tX3 bailiffref09_Alike.t0 bailiffref09_Alike.t1 bailiffref09_Alike.t2 .skip .skip .skip .skip
def bailiffref09_Alike.tX4 (t0 t1 t2 t3 t4 t5 t6 : DC) : DC :=
  (.opsc [
    ⟨some 47, (.mv (.t 46)), none⟩,
    ⟨some 48, (.faddr 9 (.t 2)), some (47, true)⟩,
    ⟨some 49, (.load (some 4) (.t 48)), some (47, true)⟩,
    ⟨some 50, (.faddr 9 (.t 3)), some (47, true)⟩,
    ⟨some 51, (.load (some 4) (.t 50)), some (47, true)⟩,
    ⟨some 52, (.call 45 [(.t 49), (.t 51)] .bool []), some (47, true)⟩,
    ⟨some 53, (.pick (.t 47) (.t 52) (.c (.bool false))), none⟩] [53] [] t3)
def bailiffref09_Alike.t4 : DC := bailiffref09_Alike.tX4 bailiffref09_Alike.t0 bailiffref09_Alike.t1 bailiffref09_Alike.t2 bailiffref09_Alike.t3 .skip .skip .skip
def bailiffref09_Alike.tX5 (t0 t1 t2 t3 t4 t5 t6 : DC) : DC :=
  (.opsc [
    ⟨some 40, (.mv (.t 39)), none⟩,
    ⟨some 41, (.faddr 5 (.t 2)), some (40, true)⟩,
    ⟨some 42, (.load (some 4) (.t 41)), some (40, true)⟩,
    ⟨some 43, (.faddr 5 (.t 3)), some (40, true)⟩,
    ⟨some 44, (.load (some 4) (.t 43)), some (40, true)⟩,
    ⟨some 45, (.call 45 [(.t 42), (.t 44)] .bool []), some (40, true)⟩,
    ⟨some 46, (.pick (.t 40) (.t 45) (.c (.bool false))), none⟩] [2, 3, 46] [2, 3] t4)
def bailiffref09_Alike.t5 : DC := bailiffref09_Alike.tX5 bailiffref09_Alike.t0 bailiffref09_Alike.t1 bailiffref09_Alike.t2 bailiffref09_Alike.t3 bailiffref09_Alike.t4 .skip .skip
def bailiffref09_Alike.tX6 (t0 t1 t2 t3 t4 t5 t6 : DC) : DC :=
    (.seq
  (.opsc [
    ⟨some 32, (.mv (.t 5)), none⟩,
    ⟨some 33, (.mv (.t 32)), none⟩,
    ⟨some 34, (.faddr 1 (.t 2)), some (33, true)⟩,
    ⟨some 35, (.load (some 4) (.t 34)), some (33, true)⟩,
    ⟨some 36, (.faddr 1 (.t 3)), some (33, true)⟩,
    ⟨some 37, (.load (some 4) (.t 36)), some (33, true)⟩,
    ⟨some 38, (.call 45 [(.t 35), (.t 37)] .bool []), some (33, true)⟩,
    ⟨some 39, (.pick (.t 33) (.t 38) (.c (.bool false))), none⟩] [2, 3, 39] [2, 3] t5)
     .ret)
def bailiffref09_Alike.t6 : DC := bailiffref09_Alike.tX6 bailiffref09_Alike.t0 bailiffref09_Alike.t1 bailiffref09_Alike.t2 bailiffref09_Alike.t3 bailiffref09_Alike.t4 bailiffref09_Alike.t5 .skip
def bailiffref09_Alike.sX6 (t : DC) : DC := .kp [2, 3, 5] [2, 3] t
def bailiffref09_Alike.bodyX (t0 t1 t2 t3 t4 t5 t6 : DC) : DC :=
  (.seq
   (.ops [
     ⟨some 2, (.box 2 (.t 0)), none⟩,
     ⟨some 3, (.box 3 (.t 1)), none⟩,
     ⟨some 4, (.mv (.c (.bool false))), none⟩])
   (.seq
  (.opsc [
    ⟨some 6, (.faddr 0 (.t 2)), none⟩,
    ⟨some 7, (.load none (.t 6)), none⟩,
    ⟨some 8, (.faddr 0 (.t 3)), none⟩,
    ⟨some 9, (.load none (.t 8)), none⟩,
    ⟨some 10, (.bini .eql (.t 7) (.t 9)), none⟩,
    ⟨some 11, (.mv (.t 10)), none⟩,
    ⟨some 12, (.faddr 13 (.t 2)), some (11, true)⟩,
    ⟨some 13, (.load none (.t 12)), some (11, true)⟩,
    ⟨some 14, (.faddr 13 (.t 3)), some (11, true)⟩,
    ⟨some 15, (.load none (.t 14)), some (11, true)⟩,
    ⟨some 16, (.eqb false (.t 13) (.t 15)), some (11, true)⟩,
    ⟨some 17, (.pick (.t 11) (.t 16) (.c (.bool false))), none⟩] [2, 3, 17] [2, 3] t2)
    (bailiffref09_Alike.sX6 t6)))
def bailiffref09_Alike.body : DC := bailiffref09_Alike.bodyX bailiffref09_Alike.t0 bailiffref09_Alike.t1 bailiffref09_Alike.t2 bailiffref09_Alike.t3 bailiffref09_Alike.t4 bailiffref09_Alike.t5 bailiffref09_Alike.t6
def bailiffref09_Alike : FD := ⟨2, [.tmp 4], bailiffref09_Alike.body⟩
/-- 58 bailiff/bailiffref09.Apply -/
def bailiffref09_Apply.tX0 (t0 t1 t2 t3 t4 t5 t6 t7 t8 t9 t10 : DC) : DC :=
      (.cond (.t 28)
       (.seq
        (.ops [
          ⟨some 29, (.build [(.int .u8 0), (.int .u8 0), (.float 0), (.str (bs [])), (.int .i64 0), (.int .u8 0), (.float 0), (.str (bs [])), (.int .i64 0), (.int .u8 0), (.float 0), (.str (bs [])), (.int .i64 0), (.bool false), (.bool false), (.bool false)] []), none⟩,
          ⟨some 30, (.mv (.t 12)), none⟩,
          ⟨none, (.store 16 (.t 8) (.t 29)), none⟩,
          ⟨some 9, (.mv (.c (.bool false))), none⟩,
          ⟨some 10, (.mv (.t 30)), none⟩])
        .ret)
       .skip)
def bailiffref09_Apply.t0 : DC := bailiffref09_Apply.tX0 .skip .skip .skip .skip .skip .skip .skip .skip .skip .skip .skip
def bailiffref09_Apply.sX0 (t : DC) : DC := .kp [2, 5, 7, 8, 12, 28] [5, 7, 8] t
def bailiffref09_Apply.tX1 (t0 t1 t2 t3 t4 t5 t6 t7 t8 t9 t10 : DC) : DC :=
  (.ops [
    ⟨some 41, (.mv (.t 40)), none⟩,
    ⟨some 42, (.load (some 16) (.t 5)), some (41, false)⟩,
    ⟨some 43, (.call 62 [(.t 42)] .bool []), some (41, false)⟩,
    ⟨some 44, (.mv (.t 43)), some (41, false)⟩,
    ⟨some 45, (.load (some 16) (.t 7)), some (44, true)⟩,
    ⟨some 46, (.call 63 [(.t 45)] .bool []), some (44, true)⟩,
    ⟨some 47, (.pick (.t 44) (.t 46) (.c (.bool false))), some (41, false)⟩,
    ⟨some 48, (.pick (.t 41) (.c (.bool true)) (.t 47)), none⟩])
def bailiffref09_Apply.t1 : DC := bailiffref09_Apply.tX1 bailiffref09_Apply.t0 .skip .skip .skip .skip .skip .skip .skip .skip .skip .skip
def bailiffref09_Apply.tX2 (t0 t1 t2 t3 t4 t5 t6 t7 t8 t9 t10 : DC) : DC :=
            (.seq
             (.ops [
               ⟨some 63, (.load (some 16) (.t 13)), none⟩,
               ⟨none, (.store 16 (.t 8) (.t 63)), none⟩,
               ⟨some 9, (.mv (.c (.bool true))), none⟩,
               ⟨some 10, (.mv (.c (.int .i64 0))), none⟩])
             .ret)
def bailiffref09_Apply.t2 : DC := bailiffref09_Apply.tX2 bailiffref09_Apply.t0 bailiffref09_Apply.t1 .skip .skip .skip .skip .skip .skip .skip .skip .skip
def bailiffref09_Apply.sX2 (t : DC) : DC := .kp [8, 13] [8, 13] t
def bailiffref09_Apply.tX3 (t0 t1 t2 t3 t4 t5 t6 t7 t8 t9 t10 : DC) : DC :=
           (.seq
            (.seq
             (.ops [
               ⟨some 57, (.load (some 16) (.t 5)), none⟩,
               ⟨some 58, (.call 61 [(.t 57), (.c (.int .u8 32))] .bool []), none⟩,
               ⟨some 59, (.not (.t 58)), none⟩])
             (.cond (.t 59)
              (.ops [
                ⟨some 60, (.faddr 15 (.t 7)), none⟩,
                ⟨some 61, (.load none (.t 60)), none⟩,
                ⟨some 62, (.faddr 15 (.t 13)), none⟩,
                ⟨none, (.store 1 (.t 62) (.t 61)), none⟩])
              .skip))
            (bailiffref09_Apply.sX2 t2))
def bailiffref09_Apply.t3 : DC := bailiffref09_Apply.tX3 bailiffref09_Apply.t0 bailiffref09_Apply.t1 bailiffref09_Apply.t2 .skip .skip .skip .skip .skip .skip .skip .skip
def bailiffref09_Apply.sX3 (t : DC) : DC := .kp [5, 7, 8, 13] [5, 7, 8, 13] t
def bailiffref09_Apply.tX4 (t0 t1 t2 t3 t4 t5 t6 t7 t8 t9 t10 : DC) : DC :=
        (.cond (.t 48)
         (.seq
          (.ops [
            ⟨some 49, (.load (some 16) (.t 5)), none⟩,
            ⟨some 50, (.call 65 [(.t 49)] .dsc []), none⟩,
            ⟨some 13, (.alloc 13 [(.int .u8 0), (.int .u8 0), (.float 0), (.str (bs [])), (.int .i64 0), (.int .u8 0), (.float 0), (.str (bs [])), (.int .i64 0), (.int .u8 0), (.float 0), (.str (bs [])), (.int .i64 0), (.bool false), (.bool false), (.bool false)] none), none⟩,
            ⟨none, (.store 16 (.t 13) (.t 50)), none⟩])
          (.seq
           (.seq
            (.ops [
              ⟨some 51, (.load (some 16) (.t 5)), none⟩,
              ⟨some 52, (.call 61 [(.t 51), (.c (.int .u8 16))] .bool []), none⟩,
              ⟨some 53, (.not (.t 52)), none⟩])
            (.cond (.t 53)
             (.ops [
               ⟨some 54, (.faddr 14 (.t 7)), none⟩,
               ⟨some 55, (.load none (.t 54)), none⟩,
               ⟨some 56, (.faddr 14 (.t 13)), none⟩,
               ⟨none, (.store 1 (.t 56) (.t 55)), none⟩])
             .skip))
           (bailiffref09_Apply.sX3 t3)))
         .skip)
def bailiffref09_Apply.t4 : DC := bailiffref09_Apply.tX4 bailiffref09_Apply.t0 bailiffref09_Apply.t1 bailiffref09_Apply.t2 bailiffref09_Apply.t3 .skip .skip .skip .skip .skip .skip .skip
def bailiffref09_Apply.sX4 (t : DC) : DC := .kp [5, 7, 8, 48] [5, 7, 8] t
def bailiffref09_Apply.tX5 (t0 t1 t2 t3 t4 t5 t6 t7 t8 t9 t10 : DC) : DC :=
              (.seq
               (.ops [
                 ⟨some 95, (.load (some 16) (.t 14)), none⟩,
                 ⟨none, (.store 16 (.t 8) (.t 95)), none⟩,
                 ⟨some 9, (.mv (.c (.bool true))), none⟩,
                 ⟨some 10, (.mv (.c (.int .i64 0))), none⟩])
               .ret)
def bailiffref09_Apply.t5 : DC := bailiffref09_Apply.tX5 bailiffref09_Apply.t0 bailiffref09_Apply.t1 bailiffref09_Apply.t2 bailiffref09_Apply.t3 bailiffref09_Apply.t4 .skip .skip .skip .skip .skip .skip
def bailiffref09_Apply.sX5 (t : DC) : DC := .kp [8, 14] [8, 14] t
def bailiffref09_Apply.tX6 (t0 t1 t2 t3 t4 t5 t6 t7 t8 t9 t10 : DC) : DC :=
             (.seq
              (.seq
               (.ops [
                 ⟨some 90, (.load (some 16) (.t 5)), none⟩,
                 ⟨some 91, (.call 61 [(.t 90), (.c (.int .u8 32))] .bool []), none⟩])
               (.cond (.t 91)
                (.ops [
                  ⟨some 92, (.faddr 15 (.t 5)), none⟩,
                  ⟨some 93, (.load none (.t 92)), none⟩,
                  ⟨some 94, (.faddr 15 (.t 14)), none⟩,
                  ⟨none, (.store 1 (.t 94) (.t 93)), none⟩])
                .skip))
              (bailiffref09_Apply.sX5 t5))
def bailiffref09_Apply.t6 : DC := bailiffref09_Apply.tX6 bailiffref09_Apply.t0 bailiffref09_Apply.t1 bailiffref09_Apply.t2 bailiffref09_Apply.t3 bailiffref09_Apply.t4 bailiffref09_Apply.t5 .skip .skip .skip .skip .skip
def bailiffref09_Apply.sX6 (t : DC) : DC := .kp [5, 8, 14] [5, 8, 14] t
def bailiffref09_Apply.tX7 (t0 t1 t2 t3 t4 t5 t6 t7 t8 t9 t10 : DC) : DC :=
            (.seq
             (.seq
              (.ops [
                ⟨some 85, (.load (some 16) (.t 5)), none⟩,
                ⟨some 86, (.call 61 [(.t 85), (.c (.int .u8 16))] .bool []), none⟩])
              (.cond (.t 86)
               (.ops [
                 ⟨some 87, (.faddr 14 (.t 5)), none⟩,
                 ⟨some 88, (.load none (.t 87)), none⟩,
                 ⟨some 89, (.faddr 14 (.t 14)), none⟩,
                 ⟨none, (.store 1 (.t 89) (.t 88)), none⟩])
               .skip))
             (bailiffref09_Apply.sX6 t6))
def bailiffref09_Apply.t7 : DC := bailiffref09_Apply.tX7 bailiffref09_Apply.t0 bailiffref09_Apply.t1 bailiffref09_Apply.t2 bailiffref09_Apply.t3 bailiffref09_Apply.t4 bailiffref09_Apply.t5 bailiffref09_Apply.t6 .skip .skip .skip .skip
def bailiffref09_Apply.sX7 (t : DC) : DC := .kp [5, 8, 14] [5, 8, 14] t
def bailiffref09_Apply.tX8 (t0 t1 t2 t3 t4 t5 t6 t7 t8 t9 t10 : DC) : DC :=
           (.seq
            (.seq
             (.ops [
               ⟨some 80, (.load (some 16) (.t 5)), none⟩,
               ⟨some 81, (.call 61 [(.t 80), (.c (.int .u8 8))] .bool []), none⟩])
             (.cond (.t 81)
              (.ops [
                ⟨some 82, (.faddr 9 (.t 5)), none⟩,
                ⟨some 83, (.load (some 4) (.t 82)), none⟩,
                ⟨some 84, (.faddr 9 (.t 14)), none⟩,
                ⟨none, (.store 4 (.t 84) (.t 83)), none⟩])
              .skip))
            (bailiffref09_Apply.sX7 t7))
def bailiffref09_Apply.t8 : DC := bailiffref09_Apply.tX8 bailiffref09_Apply.t0 bailiffref09_Apply.t1 bailiffref09_Apply.t2 bailiffref09_Apply.t3 bailiffref09_Apply.t4 bailiffref09_Apply.t5 bailiffref09_Apply.t6 bailiffref09_Apply.t7 .skip .skip .skip
def bailiffref09_Apply.sX8 (t : DC) : DC := .kp [5, 8, 14] [5, 8, 14] t
def bailiffref09_Apply.tX9 (t0 t1 t2 t3 t4 t5 t6 t7 t8 t9 t10 : DC) : DC :=
          (.seq
           (.seq
            (.ops [
              ⟨some 75, (.load (some 16) (.t 5)), none⟩,
              ⟨some 76, (.call 61 [(.t 75), (.c (.int .u8 4))] .bool []), none⟩])
            (.cond (.t 76)
             (.ops [
               ⟨some 77, (.faddr 5 (.t 5)), none⟩,
               ⟨some 78, (.load (some 4) (.t 77)), none⟩,
               ⟨some 79, (.faddr 5 (.t 14)), none⟩,
               ⟨none, (.store 4 (.t 79) (.t 78)), none⟩])
             .skip))
           (bailiffref09_Apply.sX8 t8))
def bailiffref09_Apply.t9 : DC := bailiffref09_Apply.tX9 bailiffref09_Apply.t0 bailiffref09_Apply.t1 bailiffref09_Apply.t2 bailiffref09_Apply.t3 bailiffref09_Apply.t4 bailiffref09_Apply.t5 bailiffref09_Apply.t6 bailiffref09_Apply.t7 bailiffref09_Apply.t8 .skip .skip
def bailiffref09_Apply.sX9 (t : DC) : DC := .kp [5, 8, 14] [5, 8, 14] t
def bailiffref09_Apply.tX10 (t0 t1 t2 t3 t4 t5 t6 t7 t8 t9 t10 : DC) : DC :=
         (.seq
          (.seq
           (.ops [
             ⟨some 70, (.load (some 16) (.t 5)), none⟩,
             ⟨some 71, (.call 61 [(.t 70), (.c (.int .u8 2))] .bool []), none⟩])
           (.cond (.t 71)
            (.ops [
              ⟨some 72, (.faddr 13 (.t 5)), none⟩,
              ⟨some 73, (.load none (.t 72)), none⟩,
              ⟨some 74, (.faddr 13 (.t 14)), none⟩,
              ⟨none, (.store 1 (.t 74) (.t 73)), none⟩])
            .skip))
          (bailiffref09_Apply.sX9 t9))
def bailiffref09_Apply.t10 : DC := bailiffref09_Apply.tX10 bailiffref09_Apply.t0 bailiffref09_Apply.t1 bailiffref09_Apply.t2 bailiffref09_Apply.t3 bailiffref09_Apply.t4 bailiffref09_Apply.t5 bailiffref09_Apply.t6 bailiffref09_Apply.t7 bailiffref09_Apply.t8 bailiffref09_Apply.t9 .skip
def bailiffref09_Apply.sX10 (t : DC) : DC := .kp [5, 8, 14] [5, 8, 14] t
def bailiffref09_Apply.bodyX (t0 t1 t2 t3 t4 t5 t6 t7 t8 t9 t10 : DC) : DC :=
  (.seq
   (.ops [
     ⟨some 5, (.box 5 (.t 1)), none⟩,
     ⟨some 7, (.box 7 (.t 3)), none⟩,
     ⟨some 8, (.alloc 8 [(.int .u8 0), (.int .u8 0), (.float 0), (.str (bs [])), (.int .i64 0), (.int .u8 0), (.float 0), (.str (bs [])), (.int .i64 0), (.int .u8 0), (.float 0), (.str (bs [])), (.int .i64 0), (.bool false), (.bool false), (.bool false)] none), none⟩,
     ⟨some 9, (.mv (.c (.bool false))), none⟩,
     ⟨some 10, (.mv (.c (.int .i64 0))), none⟩])
   (.seq
    (.ops [
      ⟨some 16, (.mv (.t 0)), none⟩,
      ⟨some 17, (.load (some 16) (.t 5)), none⟩,
      ⟨some 18, (.mv (.t 2)), none⟩,
      ⟨some 19, (.load (some 16) (.t 7)), none⟩,
      ⟨some 20, (.call 60 [(.t 16), (.t 17), (.t 18), (.t 19)] (.p2 .bool (.int .i64)) []), none⟩,
      ⟨some 15, (.mv (.t 20)), none⟩,
      ⟨some 21, (.ext (.t 15) 0), none⟩,
      ⟨some 22, (.ext (.t 15) 1), none⟩,
      ⟨some 11, (.mv (.t 21)), none⟩,
      ⟨some 12, (.mv (.t 22)), none⟩])
    (.seq
     (.seq
      (.ops [
        ⟨some 23, (.mv (.t 12)), none⟩,
        ⟨some 24, (.bini .neq (.t 23) (.c (.int .i64 0))), none⟩,
        ⟨some 25, (.mv (.t 24)), none⟩,
        ⟨some 26, (.mv (.t 11)), some (25, false)⟩,
        ⟨some 27, (.not (.t 26)), some (25, false)⟩,
        ⟨some 28, (.pick (.t 25) (.c (.bool true)) (.t 27)), none⟩])
      (bailiffref09_Apply.sX0 t0))
     (.seq
      (.seq
       (.ops [
         ⟨some 31, (.mv (.t 2)), none⟩,
         ⟨some 32, (.not (.t 31)), none⟩])
       (.cond (.t 32)
        (.seq
         (.ops [
           ⟨some 33, (.load (some 16) (.t 5)), none⟩,
           ⟨some 34, (.call 65 [(.t 33)] .dsc []), none⟩,
           ⟨none, (.store 16 (.t 8) (.t 34)), none⟩,
           ⟨some 9, (.mv (.c (.bool true))), none⟩,
           ⟨some 10, (.mv (.c (.int .i64 0))), none⟩])
         .ret)
        .skip))
      (.seq
       (.seq
  (.opsc [
    ⟨some 35, (.load (some 16) (.t 5)), none⟩,
    ⟨some 36, (.call 63 [(.t 35)] .bool []), none⟩,
    ⟨some 37, (.mv (.t 36)), none⟩,
    ⟨some 38, (.load (some 16) (.t 7)), some (37, true)⟩,
    ⟨some 39, (.call 62 [(.t 38)] .bool []), some (37, true)⟩,
    ⟨some 40, (.pick (.t 37) (.t 39) (.c (.bool false))), none⟩] [5, 7, 8, 40] [5, 7, 8] t1)
        (bailiffref09_Apply.sX4 t4))
       (.seq
        (.ops [
          ⟨some 64, (.load (some 16) (.t 7)), none⟩,
          ⟨some 14, (.alloc 14 [(.int .u8 0), (.int .u8 0), (.float 0), (.str (bs [])), (.int .i64 0), (.int .u8 0), (.float 0), (.str (bs [])), (.int .i64 0), (.int .u8 0), (.float 0), (.str (bs [])), (.int .i64 0), (.bool false), (.bool false), (.bool false)] none), none⟩,
          ⟨none, (.store 16 (.t 14) (.t 64)), none⟩])
        (.seq
         (.seq
          (.ops [
            ⟨some 65, (.load (some 16) (.t 5)), none⟩,
            ⟨some 66, (.call 61 [(.t 65), (.c (.int .u8 1))] .bool []), none⟩])
          (.cond (.t 66)
           (.ops [
             ⟨some 67, (.faddr 1 (.t 5)), none⟩,
             ⟨some 68, (.load (some 4) (.t 67)), none⟩,
             ⟨some 69, (.faddr 1 (.t 14)), none⟩,
             ⟨none, (.store 4 (.t 69) (.t 68)), none⟩])
           .skip))
         (bailiffref09_Apply.sX10 t10))))))))
def bailiffref09_Apply.body : DC := bailiffref09_Apply.bodyX bailiffref09_Apply.t0 bailiffref09_Apply.t1 bailiffref09_Apply.t2 bailiffref09_Apply.t3 bailiffref09_Apply.t4 bailiffref09_Apply.t5 bailiffref09_Apply.t6 bailiffref09_Apply.t7 bailiffref09_Apply.t8 bailiffref09_Apply.t9 bailiffref09_Apply.t10
def bailiffref09_Apply : FD := ⟨4, [.cell 8 (some 16), .tmp 9, .tmp 10], bailiffref09_Apply.body⟩
/-- 59 bailiff/bailiffref09.Check -/
def bailiffref09_Check.tX0 (t0 t1 t2 t3 t4 t5 t6 t7 t8 t9 t10 : DC) : DC :=
     (.cond (.t 17)
      (.seq
       (.ops [
         ⟨some 2, (.mv (.c (.int .i64 90))), none⟩])
       .ret)
      .skip)
def bailiffref09_Check.t0 : DC := bailiffref09_Check.tX0 .skip .skip .skip .skip .skip .skip .skip .skip .skip .skip .skip
def bailiffref09_Check.sX0 (t : DC) : DC := .kp [1, 17] [1] t
def bailiffref09_Check.tX1 (t0 t1 t2 t3 t4 t5 t6 t7 t8 t9 t10 : DC) : DC :=
  (.ops [
    ⟨some 6, (.mv (.t 66)), none⟩])
def bailiffref09_Check.t1 : DC := bailiffref09_Check.tX1 bailiffref09_Check.t0 .skip .skip .skip .skip .skip .skip .skip .skip .skip .skip
def bailiffref09_Check.tX2 (t0 t1 t2 t3 t4 t5 t6 t7 t8 t9 t10 : DC) : DC :=
  (.opsc [
    ⟨some 58, (.mv (.t 57)), none⟩,
    ⟨some 59, (.faddr 15 (.t 1)), some (58, true)⟩,
    ⟨some 60, (.load none (.t 59)), some (58, true)⟩,
    ⟨some 61, (.not (.t 60)), some (58, true)⟩,
    ⟨some 62, (.mv (.t 61)), some (58, true)⟩,
    ⟨some 63, (.load (some 16) (.t 1)), some (62, false)⟩,
    ⟨some 64, (.call 61 [(.t 63), (.c (.int .u8 32))] .bool []), some (62, false)⟩,
    ⟨some 65, (.pick (.t 62) (.c (.bool true)) (.t 64)), some (58, true)⟩,
    ⟨some 66, (.pick (.t 58) (.t 65) (.c (.bool false))), none⟩] [3, 4, 5, 66] [] t1)
def bailiffref09_Check.t2 : DC := bailiffref09_Check.tX2 bailiffref09_Check.t0 bailiffref09_Check.t1 .skip .skip .skip .skip .skip .skip .skip .skip .skip
def bailiffref09_Check.tX3 (t0 t1 t2 t3 t4 t5 t6 t7 t8 t9 t10 : DC) : DC :=
  (.opsc [
    ⟨some 49, (.mv (.t 48)), none⟩,
    ⟨some 50, (.faddr 14 (.t 1)), some (49, true)⟩,
    ⟨some 51, (.load none (.t 50)), some (49, true)⟩,
    ⟨some 52, (.not (.t 51)), some (49, true)⟩,
    ⟨some 53, (.mv (.t 52)), some (49, true)⟩,
    ⟨some 54, (.load (some 16) (.t 1)), some (53, false)⟩,
    ⟨some 55, (.call 61 [(.t 54), (.c (.int .u8 16))] .bool []), some (53, false)⟩,
    ⟨some 56, (.pick (.t 53) (.c (.bool true)) (.t 55)), some (49, true)⟩,
    ⟨some 57, (.pick (.t 49) (.t 56) (.c (.bool false))), none⟩] [1, 3, 4, 5, 57] [1] t2)
def bailiffref09_Check.t3 : DC := bailiffref09_Check.tX3 bailiffref09_Check.t0 bailiffref09_Check.t1 bailiffref09_Check.t2 .skip .skip .skip .skip .skip .skip .skip .skip
def bailiffref09_Check.tX4 (t0 t1 t2 t3 t4 t5 t6 t7 t8 t9 t10 : DC) : DC :=
  (.ops [
    ⟨some 77, (.mv (.t 76)), none⟩,
    ⟨some 78, (.mv (.t 6)), some (77, false)⟩,
    ⟨some 79, (.not (.t 78)), some (77, false)⟩,
    ⟨some 80, (.pick (.t 77) (.c (.bool true)) (.t 79)), none⟩])
def bailiffref09_Check.t4 : DC := bailiffref09_Check.tX4 bailiffref09_Check.t0 bailiffref09_Check.t1 bailiffref09_Check.t2 bailiffref09_Check.t3 .skip .skip .skip .skip .skip .skip .skip
def bailiffref09_Check.tX5 (t0 t1 t2 t3 t4 t5 t6 t7 t8 t9 t10 : DC) : DC :=
  (.opsc [
    ⟨some 73, (.mv (.t 72)), none⟩,
    ⟨some 74, (.mv (.t 5)), some (73, false)⟩,
    ⟨some 75, (.not (.t 74)), some (73, false)⟩,
    ⟨some 76, (.pick (.t 73) (.c (.bool true)) (.t 75)), none⟩] [6, 76] [] t4)
def bailiffref09_Check.t5 : DC := bailiffref09_Check.tX5 bailiffref09_Check.t0 bailiffref09_Check.t1 bailiffref09_Check.t2 bailiffref09_Check.t3 bailiffref09_Check.t4 .skip .skip .skip .skip .skip .skip
def bailiffref09_Check.tX6 (t0 t1 t2 t3 t4 t5 t6 t7 t8 t9 t10 : DC) : DC :=
             (.cond (.t 80)
              (.seq
               (.ops [
                 ⟨some 2, (.mv (.c (.int .i64 90))), none⟩])
               .ret)
              .skip)
def bailiffref09_Check.t6 : DC := bailiffref09_Check.tX6 bailiffref09_Check.t0 bailiffref09_Check.t1 bailiffref09_Check.t2 bailiffref09_Check.t3 bailiffref09_Check.t4 bailiffref09_Check.t5 .skip .skip .skip .skip .skip
def bailiffref09_Check.sX6 (t : DC) : DC := .kp [80] [] t
def bailiffref09_Check.tX7 (t0 t1 t2 t3 t4 t5 t6 t7 t8 t9 t10 : DC) : DC :=
           (.seq
            (.seq
  (.opsc [
    ⟨some 67, (.mv (.t 3)), none⟩,
    ⟨some 68, (.not (.t 67)), none⟩,
    ⟨some 69, (.mv (.t 68)), none⟩,
    ⟨some 70, (.mv (.t 4)), some (69, false)⟩,
    ⟨some 71, (.not (.t 70)), some (69, false)⟩,
    ⟨some 72, (.pick (.t 69) (.c (.bool true)) (.t 71)), none⟩] [5, 6, 72] [] t5)
             (bailiffref09_Check.sX6 t6))
            (.seq
             (.ops [
               ⟨some 2, (.mv (.c (.int .i64 0))), none⟩])
             .ret))
def bailiffref09_Check.t7 : DC := bailiffref09_Check.tX7 bailiffref09_Check.t0 bailiffref09_Check.t1 bailiffref09_Check.t2 bailiffref09_Check.t3 bailiffref09_Check.t4 bailiffref09_Check.t5 bailiffref09_Check.t6 .skip .skip .skip .skip
def bailiffref09_Check.sX7 (t : DC) : DC := .kp [3, 4, 5, 6] [] t
def bailiffref09_Check.tX8 (t0 t1 t2 t3 t4 t5 t6 t7 t8 t9 t10 : DC) : DC :=
          (.seq
  (.opsc [
    ⟨some 42, (.faddr 13 (.t 1)), none⟩,
    ⟨some 43, (.load none (.t 42)), none⟩,
    ⟨some 44, (.not (.t 43)), none⟩,
    ⟨some 45, (.mv (.t 44)), none⟩,
    ⟨some 46, (.load (some 16) (.t 1)), some (45, false)⟩,
    ⟨some 47, (.call 61 [(.t 46), (.c (.int .u8 2))] .bool []), some (45, false)⟩,
    ⟨some 48, (.pick (.t 45) (.c (.bool true)) (.t 47)), none⟩] [1, 3, 4, 5, 48] [1] t3)
           (bailiffref09_Check.sX7 t7))
def bailiffref09_Check.t8 : DC := bailiffref09_Check.tX8 bailiffref09_Check.t0 bailiffref09_Check.t1 bailiffref09_Check.t2 bailiffref09_Check.t3 bailiffref09_Check.t4 bailiffref09_Check.t5 bailiffref09_Check.t6 bailiffref09_Check.t7 .skip .skip .skip
def bailiffref09_Check.sX8 (t : DC) : DC := .kp [1, 3, 4, 5] [1] t
def bailiffref09_Check.tX9 (t0 t1 t2 t3 t4 t5 t6 t7 t8 t9 t10 : DC) : DC :=
        (.seq
         (.ops [
           ⟨some 34, (.faddr 9 (.t 1)), none⟩,
           ⟨some 35, (.load (some 4) (.t 34)), none⟩,
           ⟨some 36, (.call 66 [(.t 35)] .bool []), none⟩,
           ⟨some 5, (.mv (.t 36)), none⟩])
         (.seq
          (.seq
           (.ops [
             ⟨some 37, (.load (some 16) (.t 1)), none⟩,
             ⟨some 38, (.call 61 [(.t 37), (.c (.int .u8 8))] .bool []), none⟩])
           (.cond (.t 38)
            (.ops [
              ⟨some 39, (.faddr 9 (.t 1)), none⟩,
              ⟨some 40, (.load (some 4) (.t 39)), none⟩,
              ⟨some 41, (.call 67 [(.t 40)] .bool []), none⟩,
              ⟨some 5, (.mv (.t 41)), none⟩])
            .skip))
          (bailiffref09_Check.sX8 t8)))
def bailiffref09_Check.t9 : DC := bailiffref09_Check.tX9 bailiffref09_Check.t0 bailiffref09_Check.t1 bailiffref09_Check.t2 bailiffref09_Check.t3 bailiffref09_Check.t4 bailiffref09_Check.t5 bailiffref09_Check.t6 bailiffref09_Check.t7 bailiffref09_Check.t8 .skip .skip
def bailiffref09_Check.sX9 (t : DC) : DC := .kp [1, 3, 4] [1] t
def bailiffref09_Check.tX10 (t0 t1 t2 t3 t4 t5 t6 t7 t8 t9 t10 : DC) : DC :=
      (.seq
       (.ops [
         ⟨some 26, (.faddr 5 (.t 1)), none⟩,
         ⟨some 27, (.load (some 4) (.t 26)), none⟩,
         ⟨some 28, (.call 66 [(.t 27)] .bool []), none⟩,
         ⟨some 4, (.mv (.t 28)), none⟩])
       (.seq
        (.seq
         (.ops [
           ⟨some 29, (.load (some 16) (.t 1)), none⟩,
           ⟨some 30, (.call 61 [(.t 29), (.c (.int .u8 4))] .bool []), none⟩])
         (.cond (.t 30)
          (.ops [
            ⟨some 31, (.faddr 5 (.t 1)), none⟩,
            ⟨some 32, (.load (some 4) (.t 31)), none⟩,
            ⟨some 33, (.call 67 [(.t 32)] .bool []), none⟩,
            ⟨some 4, (.mv (.t 33)), none⟩])
          .skip))
        (bailiffref09_Check.sX9 t9)))
def bailiffref09_Check.t10 : DC := bailiffref09_Check.tX10 bailiffref09_Check.t0 bailiffref09_Check.t1 bailiffref09_Check.t2 bailiffref09_Check.t3 bailiffref09_Check.t4 bailiffref09_Check.t5 bailiffref09_Check.t6 bailiffref09_Check.t7 bailiffref09_Check.t8 bailiffref09_Check.t9 .skip
def bailiffref09_Check.sX10 (t : DC) : DC := .kp [1, 3] [1] t
def bailiffref09_Check.bodyX (t0 t1 t2 t3 t4 t5 t6 t7 t8 t9 t10 : DC) : DC :=
  (.seq
   (.ops [
     ⟨some 1, (.box 1 (.t 0)), none⟩,
     ⟨some 2, (.mv (.c (.int .i64 0))), none⟩])
   (.seq
    (.seq
     (.ops [
       ⟨some 7, (.faddr 0 (.t 1)), none⟩,
       ⟨some 8, (.load none (.t 7)), none⟩,
       ⟨some 9, (.bini .gtr (.t 8) (.c (.int .u8 63))), none⟩,
       ⟨some 10, (.mv (.t 9)), none⟩,
       ⟨some 11, (.load (some 16) (.t 1)), some (10, false)⟩,
       ⟨some 12, (.call 63 [(.t 11)] .bool []), some (10, false)⟩,
       ⟨some 13, (.mv (.t 12)), some (10, false)⟩,
       ⟨some 14, (.load (some 16) (.t 1)), some (13, true)⟩,
       ⟨some 15, (.call 62 [(.t 14)] .bool []), some (13, true)⟩,
       ⟨some 16, (.pick (.t 13) (.t 15) (.c (.bool false))), some (10, false)⟩,
       ⟨some 17, (.pick (.t 10) (.c (.bool true)) (.t 16)), none⟩])
     (bailiffref09_Check.sX0 t0))
    (.seq
     (.ops [
       ⟨some 18, (.faddr 1 (.t 1)), none⟩,
       ⟨some 19, (.load (some 4) (.t 18)), none⟩,
       ⟨some 20, (.call 66 [(.t 19)] .bool []), none⟩,
       ⟨some 3, (.mv (.t 20)), none⟩])
     (.seq
      (.seq
       (.ops [
         ⟨some 21, (.load (some 16) (.t 1)), none⟩,
         ⟨some 22, (.call 61 [(.t 21), (.c (.int .u8 1))] .bool []), none⟩])
       (.cond (.t 22)
        (.ops [
          ⟨some 23, (.faddr 1 (.t 1)), none⟩,
          ⟨some 24, (.load (some 4) (.t 23)), none⟩,
          ⟨some 25, (.call 48 [(.t 24)] .bool []), none⟩,
          ⟨some 3, (.mv (.t 25)), none⟩])
        .skip))
      (bailiffref09_Check.sX10 t10)))))
def bailiffref09_Check.body : DC := bailiffref09_Check.bodyX bailiffref09_Check.t0 bailiffref09_Check.t1 bailiffref09_Check.t2 bailiffref09_Check.t3 bailiffref09_Check.t4 bailiffref09_Check.t5 bailiffref09_Check.t6 bailiffref09_Check.t7 bailiffref09_Check.t8 bailiffref09_Check.t9 bailiffref09_Check.t10
def bailiffref09_Check : FD := ⟨1, [.tmp 2], bailiffref09_Check.body⟩
/-- 60 bailiff/bailiffref09.Compatible -/
def bailiffref09_Compatible.tX0 (t0 t1 t2 t3 t4 t5 t6 t7 t8 t9 t10 t11 t12 t13 t14 t15 t16 t17 t18 t19 t20 t21 : DC) : DC :=
     (.cond (.t 26)
      (.seq
       (.ops [
         ⟨some 8, (.mv (.c (.bool false))), none⟩,
         ⟨some 9, (.mv (.c (.int .i64 90))), none⟩])
       .ret)
      .skip)
def bailiffref09_Compatible.t0 : DC := bailiffref09_Compatible.tX0 .skip .skip .skip .skip .skip .skip .skip .skip .skip .skip .skip .skip .skip .skip .skip .skip .skip .skip .skip .skip .skip .skip
def bailiffref09_Compatible.sX0 (t : DC) : DC := .kp [0, 2, 5, 7, 26] [5, 7] t
def bailiffref09_Compatible.tX1 (t0 t1 t2 t3 t4 t5 t6 t7 t8 t9 t10 t11 t12 t13 t14 t15 t16 t17 t18 t19 t20 t21 : DC) : DC :=
  (.ops [
    ⟨some 11, (.mv (.t 41)), none⟩])
def bailiffref09_Compatible.t1 : DC := bailiffref09_Compatible.tX1 bailiffref09_Compatible.t0 .skip .skip .skip .skip .skip .skip .skip .skip .skip .skip .skip .skip .skip .skip .skip .skip .skip .skip .skip .skip .skip
def bailiffref09_Compatible.tX2 (t0 t1 t2 t3 t4 t5 t6 t7 t8 t9 t10 t11 t12 t13 t14 t15 t16 t17 t18 t19 t20 t21 : DC) : DC :=
  (.opsc [
    ⟨some 38, (.mv (.t 37)), none⟩,
    ⟨some 39, (.faddr 15 (.t 5)), some (38, true)⟩,
    ⟨some 40, (.load none (.t 39)), some (38, true)⟩,
    ⟨some 41, (.pick (.t 38) (.t 40) (.c (.bool false))), none⟩] [5, 7, 10, 41] [5, 7] t1)
def bailiffref09_Compatible.t2 : DC := bailiffref09_Compatible.tX2 bailiffref09_Compatible.t0 bailiffref09_Compatible.t1 .skip .skip .skip .skip .skip .skip .skip .skip .skip .skip .skip .skip .skip .skip .skip .skip .skip .skip .skip .skip
def bailiffref09_Compatible.tX3 (t0 t1 t2 t3 t4 t5 t6 t7 t8 t9 t10 t11 t12 t13 t14 t15 t16 t17 t18 t19 t20 t21 : DC) : DC :=
  (.ops [
    ⟨some 12, (.mv (.t 53)), none⟩])
def bailiffref09_Compatible.t3 : DC := bailiffref09_Compatible.tX3 bailiffref09_Compatible.t0 bailiffref09_Compatible.t1 bailiffref09_Compatible.t2 .skip .skip .skip .skip .skip .skip .skip .skip .skip .skip .skip .skip .skip .skip .skip .skip .skip .skip .skip
def bailiffref09_Compatible.tX4 (t0 t1 t2 t3 t4 t5 t6 t7 t8 t9 t10 t11 t12 t13 t14 t15 t16 t17 t18 t19 t20 t21 : DC) : DC :=
  (.opsc [
    ⟨some 47, (.mv (.t 46)), none⟩,
    ⟨some 48, (.faddr 14 (.t 5)), some (47, true)⟩,
    ⟨some 49, (.load none (.t 48)), some (47, true)⟩,
    ⟨some 50, (.faddr 14 (.t 7)), some (47, true)⟩,
    ⟨some 51, (.load none (.t 50)), some (47, true)⟩,
    ⟨some 52, (.eqb true (.t 49) (.t 51)), some (47, true)⟩,
    ⟨some 53, (.pick (.t 47) (.t 52) (.c (.bool false))), none⟩] [5, 7, 10, 11, 53] [5, 7] t3)
def bailiffref09_Compatible.t4 : DC := bailiffref09_Compatible.tX4 bailiffref09_Compatible.t0 bailiffref09_Compatible.t1 bailiffref09_Compatible.t2 bailiffref09_Compatible.t3 .skip .skip .skip .skip .skip .skip .skip .skip .skip .skip .skip .skip .skip .skip .skip .skip .skip .skip
def bailiffref09_Compatible.tX5 (t0 t1 t2 t3 t4 t5 t6 t7 t8 t9 t10 t11 t12 t13 t14 t15 t16 t17 t18 t19 t20 t21 : DC) : DC :=
  (.ops [
    ⟨some 13, (.mv (.t 70)), none⟩])
def bailiffref09_Compatible.t5 : DC := bailiffref09_Compatible.tX5 bailiffref09_Compatible.t0 bailiffref09_Compatible.t1 bailiffref09_Compatible.t2 bailiffref09_Compatible.t3 bailiffref09_Compatible.t4 .skip .skip .skip .skip .skip .skip .skip .skip .skip .skip .skip .skip .skip .skip .skip .skip .skip
def bailiffref09_Compatible.tX6 (t0 t1 t2 t3 t4 t5 t6 t7 t8 t9 t10 t11 t12 t13 t14 t15 t16 t17 t18 t19 t20 t21 : DC) : DC :=
  (.ops [
    ⟨some 14, (.mv (.t 100)), none⟩])
def bailiffref09_Compatible.t6 : DC := bailiffref09_Compatible.tX6 bailiffref09_Compatible.t0 bailiffref09_Compatible.t1 bailiffref09_Compatible.t2 bailiffref09_Compatible.t3 bailiffref09_Compatible.t4 bailiffref09_Compatible.t5 .skip .skip .skip .skip .skip .skip .skip .skip .skip .skip .skip .skip .skip .skip .skip .skip
def bailiffref09_Compatible.tX7 (t0 t1 t2 t3 t4 t5 t6 t7 t8 t9 t10 t11 t12 t13 t14 t15 t16 t17 t18 t19 t20 t21 : DC) : DC :=
  (.opsc [
    ⟨some 85, (.mv (.t 84)), none⟩,
    ⟨some 86, (.faddr 13 (.t 5)), some (85, true)⟩,
    ⟨some 87, (.load none (.t 86)), some (85, true)⟩,
    ⟨some 88, (.mv (.t 87)), some (85, true)⟩,
    ⟨some 89, (.load (some 16) (.t 5)), some (88, false)⟩,
    ⟨some 90, (.call 61 [(.t 89), (.c (.int .u8 1))] .bool []), some (88, false)⟩,
    ⟨some 91, (.mv (.t 90)), some (88, false)⟩,
    ⟨some 92, (.faddr 1 (.t 5)), some (91, true)⟩,
    ⟨some 93, (.load (some 4) (.t 92)), some (91, true)⟩,
    ⟨some 94, (.faddr 1 (.t 7)), some (91, true)⟩,
    ⟨some 95, (.load (some 4) (.t 94)), some (91, true)⟩,
    ⟨some 96, (.call 50 [(.t 93), (.t 95)] .bool []), some (91, true)⟩,
    ⟨some 97, (.not (.t 96)), some (91, true)⟩,
    ⟨some 98, (.pick (.t 91) (.t 97) (.c (.bool false))), some (88, false)⟩,
    ⟨some 99, (.pick (.t 88) (.c (.bool true)) (.t 98)), some (85, true)⟩,
    ⟨some 100, (.pick (.t 85) (.t 99) (.c (.bool false))), none⟩] [5, 7, 10, 11, 12, 13, 100] [5, 7] t6)
def bailiffref09_Compatible.t7 : DC := bailiffref09_Compatible.tX7 bailiffref09_Compatible.t0 bailiffref09_Compatible.t1 bailiffref09_Compatible.t2 bailiffref09_Compatible.t3 bailiffref09_Compatible.t4 bailiffref09_Compatible.t5 bailiffref09_Compatible.t6 .skip .skip .skip .skip .skip .skip .skip .skip .skip .skip .skip .skip .skip .skip .skip
def bailiffref09_Compatible.tX8 (t0 t1 t2 t3 t4 t5 t6 t7 t8 t9 t10 t11 t12 t13 t14 t15 t16 t17 t18 t19 t20 t21 : DC) : DC :=
  (.opsc [
    ⟨some 81, (.mv (.t 80)), none⟩,
    ⟨some 82, (.load (some 16) (.t 5)), some (81, true)⟩,
    ⟨some 83, (.call 63 [(.t 82)] .bool []), some (81, true)⟩,
    ⟨some 84, (.pick (.t 81) (.t 83) (.c (.bool false))), none⟩] [5, 7, 10, 11, 12, 13, 84] [5, 7] t7)
def bailiffref09_Compatible.t8 : DC := bailiffref09_Compatible.tX8 bailiffref09_Compatible.t0 bailiffref09_Compatible.t1 bailiffref09_Compatible.t2 bailiffref09_Compatible.t3 bailiffref09_Compatible.t4 bailiffref09_Compatible.t5 bailiffref09_Compatible.t6 bailiffref09_Compatible.t7 .skip .skip .skip .skip .skip .skip .skip .skip .skip .skip .skip .skip .skip .skip
def bailiffref09_Compatible.tX9 (t0 t1 t2 t3 t4 t5 t6 t7 t8 t9 t10 t11 t12 t13 t14 t15 t16 t17 t18 t19 t20 t21 : DC) : DC :=
  (.opsc [
    ⟨some 76, (.mv (.t 75)), none⟩,
    ⟨some 77, (.faddr 13 (.t 7)), some (76, true)⟩,
    ⟨some 78, (.load none (.t 77)), some (76, true)⟩,
    ⟨some 79, (.not (.t 78)), some (76, true)⟩,
    ⟨some 80, (.pick (.t 76) (.t 79) (.c (.bool false))), none⟩] [5, 7, 10, 11, 12, 13, 80] [5, 7] t8)
def bailiffref09_Compatible.t9 : DC := bailiffref09_Compatible.tX9 bailiffref09_Compatible.t0 bailiffref09_Compatible.t1 bailiffref09_Compatible.t2 bailiffref09_Compatible.t3 bailiffref09_Compatible.t4 bailiffref09_Compatible.t5 bailiffref09_Compatible.t6 bailiffref09_Compatible.t7 bailiffref09_Compatible.t8 .skip .skip .skip .skip .skip .skip .skip .skip .skip .skip .skip .skip .skip
def bailiffref09_Compatible.tX10 (t0 t1 t2 t3 t4 t5 t6 t7 t8 t9 t10 t11 t12 t13 t14 t15 t16 t17 t18 t19 t20 t21 : DC) : DC :=
  (.ops [
    ⟨some 15, (.mv (.t 133)), none⟩])
def bailiffref09_Compatible.t10 : DC := bailiffref09_Compatible.tX10 bailiffref09_Compatible.t0 bailiffref09_Compatible.t1 bailiffref09_Compatible.t2 bailiffref09_Compatible.t3 bailiffref09_Compatible.t4 bailiffref09_Compatible.t5 bailiffref09_Compatible.t6 bailiffref09_Compatible.t7 bailiffref09_Compatible.t8 bailiffref09_Compatible.t9 .skip .skip .skip .skip .skip .skip .skip .skip .skip .skip .skip .skip
def bailiffref09_Compatible.tX11 (t0 t1 t2 t3 t4 t5 t6 t7 t8 t9 t10 t11 t12 t13 t14 t15 t16 t17 t18 t19 t20 t21 : DC) : DC :=
  (.opsc [
    ⟨some 110, (.mv (.t 109)), none⟩,
    ⟨some 111, (.load (some 16) (.t 5)), some (110, true)⟩,
    ⟨some 112, (.call 61 [(.t 111), (.c (.int .u8 4))] .bool []), some (110, true)⟩,
    ⟨some 113, (.mv (.t 112)), some (110, true)⟩,
    ⟨some 114, (.faddr 5 (.t 5)), some (113, true)⟩,
    ⟨some 115, (.load (some 4) (.t 114)), some (113, true)⟩,
    ⟨some 116, (.faddr 5 (.t 7)), some (113, true)⟩,
    ⟨some 117, (.load (some 4) (.t 116)), some (113, true)⟩,
    ⟨some 118, (.call 50 [(.t 115), (.t 117)] .bool []), some (113, true)⟩,
    ⟨some 119, (.not (.t 118)), some (113, true)⟩,
    ⟨some 120, (.pick (.t 113) (.t 119) (.c (.bool false))), some (110, true)⟩,
    ⟨some 121, (.mv (.t 120)), some (110, true)⟩,
    ⟨some 122, (.load (some 16) (.t 5)), some (121, false)⟩,
    ⟨some 123, (.call 61 [(.t 122), (.c (.int .u8 8))] .bool []), some (121, false)⟩,
    ⟨some 124, (.mv (.t 123)), some (121, false)⟩,
    ⟨some 125, (.faddr 9 (.t 5)), some (124, true)⟩,
    ⟨some 126, (.load (some 4) (.t 125)), some (124, true)⟩,
    ⟨some 127, (.faddr 9 (.t 7)), some (124, true)⟩,
    ⟨some 128, (.load (some 4) (.t 127)), some (124, true)⟩,
    ⟨some 129, (.call 50 [(.t 126), (.t 128)] .bool []), some (124, true)⟩,
    ⟨some 130, (.not (.t 129)), some (124, true)⟩,
    ⟨some 131, (.pick (.t 124) (.t 130) (.c (.bool false))), some (121, false)⟩,
    ⟨some 132, (.pick (.t 121) (.c (.bool true)) (.t 131)), some (110, true)⟩,
    ⟨some 133, (.pick (.t 110) (.t 132) (.c (.bool false))), none⟩] [11, 12, 13, 14, 133] [] t10)
def bailiffref09_Compatible.t11 : DC := bailiffref09_Compatible.tX11 bailiffref09_Compatible.t0 bailiffref09_Compatible.t1 bailiffref09_Compatible.t2 bailiffref09_Compatible.t3 bailiffref09_Compatible.t4 bailiffref09_Compatible.t5 bailiffref09_Compatible.t6 bailiffref09_Compatible.t7 bailiffref09_Compatible.t8 bailiffref09_Compatible.t9 bailiffref09_Compatible.t10 .skip .skip .skip .skip .skip .skip .skip .skip .skip .skip .skip
def bailiffref09_Compatible.tX12 (t0 t1 t2 t3 t4 t5 t6 t7 t8 t9 t10 t11 t12 t13 t14 t15 t16 t17 t18 t19 t20 t21 : DC) : DC :=
  (.opsc [
    ⟨some 106, (.mv (.t 105)), none⟩,
    ⟨some 107, (.load (some 16) (.t 5)), some (106, true)⟩,
    ⟨some 108, (.call 62 [(.t 107)] .bool []), some (106, true)⟩,
    ⟨some 109, (.pick (.t 106) (.t 108) (.c (.bool false))), none⟩] [5, 7, 11, 12, 13, 14, 109] [5, 7] t11)
def bailiffref09_Compatible.t12 : DC := bailiffref09_Compatible.tX12 bailiffref09_Compatible.t0 bailiffref09_Compatible.t1 bailiffref09_Compatible.t2 bailiffref09_Compatible.t3 bailiffref09_Compatible.t4 bailiffref09_Compatible.t5 bailiffref09_Compatible.t6 bailiffref09_Compatible.t7 bailiffref09_Compatible.t8 bailiffref09_Compatible.t9 bailiffref09_Compatible.t10 bailiffref09_Compatible.t11 .skip .skip .skip .skip .skip .skip .skip .skip .skip .skip
def bailiffref09_Compatible.tX13 (t0 t1 t2 t3 t4 t5 t6 t7 t8 t9 t10 t11 t12 t13 t14 t15 t16 t17 t18 t19 t20 t21 : DC) : DC :=
  (.ops [
    ⟨some 8, (.mv (.t 151)), none⟩,
    ⟨some 9, (.mv (.c (.int .i64 0))), none⟩])
def bailiffref09_Compatible.t13 : DC := bailiffref09_Compatible.tX13 bailiffref09_Compatible.t0 bailiffref09_Compatible.t1 bailiffref09_Compatible.t2 bailiffref09_Compatible.t3 bailiffref09_Compatible.t4 bailiffref09_Compatible.t5 bailiffref09_Compatible.t6 bailiffref09_Compatible.t7 bailiffref09_Compatible.t8 bailiffref09_Compatible.t9 bailiffref09_Compatible.t10 bailiffref09_Compatible.t11 bailiffref09_Compatible.t12 .skip .skip .skip .skip .skip .skip .skip .skip .skip
def bailiffref09_Compatible.tX14 (t0 t1 t2 t3 t4 t5 t6 t7 t8 t9 t10 t11 t12 t13 t14 t15 t16 t17 t18 t19 t20 t21 : DC) : DC :=
  (.opsc [
    ⟨some 148, (.mv (.t 147)), none⟩,
    ⟨some 149, (.mv (.t 15)), some (148, true)⟩,
    ⟨some 150, (.not (.t 149)), some (148, true)⟩,
    ⟨some 151, (.pick (.t 148) (.t 150) (.c (.bool false))), none⟩] [151] [] t13)
def bailiffref09_Compatible.t14 : DC := bailiffref09_Compatible.tX14 bailiffref09_Compatible.t0 bailiffref09_Compatible.t1 bailiffref09_Compatible.t2 bailiffref09_Compatible.t3 bailiffref09_Compatible.t4 bailiffref09_Compatible.t5 bailiffref09_Compatible.t6 bailiffref09_Compatible.t7 bailiffref09_Compatible.t8 bailiffref09_Compatible.t9 bailiffref09_Compatible.t10 bailiffref09_Compatible.t11 bailiffref09_Compatible.t12 bailiffref09_Compatible.t13 .skip .skip .skip .skip .skip .skip .skip .skip
def bailiffref09_Compatible.tX15 (t0 t1 t2 t3 t4 t5 t6 t7 t8 t9 t10 t11 t12 t13 t14 t15 t16 t17 t18 t19 t20 t21 : DC) : DC :=
  (.opsc [
    ⟨some 144, (.mv (.t 143)), none⟩,
    ⟨some 145, (.mv (.t 14)), some (144, true)⟩,
    ⟨some 146, (.not (.t 145)), some (144, true)⟩,
    ⟨some 147, (.pick (.t 144) (.t 146) (.c (.bool false))), none⟩] [15, 147] [] t14)
def bailiffref09_Compatible.t15 : DC := bailiffref09_Compatible.tX15 bailiffref09_Compatible.t0 bailiffref09_Compatible.t1 bailiffref09_Compatible.t2 bailiffref09_Compatible.t3 bailiffref09_Compatible.t4 bailiffref09_Compatible.t5 bailiffref09_Compatible.t6 bailiffref09_Compatible.t7 bailiffref09_Compatible.t8 bailiffref09_Compatible.t9 bailiffref09_Compatible.t10 bailiffref09_Compatible.t11 bailiffref09_Compatible.t12 bailiffref09_Compatible.t13 bailiffref09_Compatible.t14 .skip .skip .skip .skip .skip .skip .skip
def bailiffref09_Compatible.tX16 (t0 t1 t2 t3 t4 t5 t6 t7 t8 t9 t10 t11 t12 t13 t14 t15 t16 t17 t18 t19 t20 t21 : DC) : DC :=
  (.opsc [
    ⟨some 140, (.mv (.t 139)), none⟩,
    ⟨some 141, (.mv (.t 13)), some (140, true)⟩,
    ⟨some 142, (.not (.t 141)), some (140, true)⟩,
    ⟨some 143, (.pick (.t 140) (.t 142) (.c (.bool false))), none⟩] [14, 15, 143] [] t15)
def bailiffref09_Compatible.t16 : DC := bailiffref09_Compatible.tX16 bailiffref09_Compatible.t0 bailiffref09_Compatible.t1 bailiffref09_Compatible.t2 bailiffref09_Compatible.t3 bailiffref09_Compatible.t4 bailiffref09_Compatible.t5 bailiffref09_Compatible.t6 bailiffref09_Compatible.t7 bailiffref09_Compatible.t8 bailiffref09_Compatible.t9 bailiffref09_Compatible.t10 bailiffref09_Compatible.t11 bailiffref09_Compatible.t12 bailiffref09_Compatible.t13 bailiffref09_Compatible.t14 bailiffref09_Compatible.t15 .skip .skip .skip .skip .skip .skip
def bailiffref09_Compatible.tX17 (t0 t1 t2 t3 t4 t5 t6 t7 t8 t9 t10 t11 t12 t13 t14 t15 t16 t17 t18 t19 t20 t21 : DC) : DC :=
           (.seq
  (.opsc [
    ⟨some 134, (.mv (.t 11)), none⟩,
    ⟨some 135, (.not (.t 134)), none⟩,
    ⟨some 136, (.mv (.t 135)), none⟩,
    ⟨some 137, (.mv (.t 12)), some (136, true)⟩,
    ⟨some 138, (.not (.t 137)), some (136, true)⟩,
    ⟨some 139, (.pick (.t 136) (.t 138) (.c (.bool false))), none⟩] [13, 14, 15, 139] [] t16)
            .ret)
def bailiffref09_Compatible.t17 : DC := bailiffref09_Compatible.tX17 bailiffref09_Compatible.t0 bailiffref09_Compatible.t1 bailiffref09_Compatible.t2 bailiffref09_Compatible.t3 bailiffref09_Compatible.t4 bailiffref09_Compatible.t5 bailiffref09_Compatible.t6 bailiffref09_Compatible.t7 bailiffref09_Compatible.t8 bailiffref09_Compatible.t9 bailiffref09_Compatible.t10 bailiffref09_Compatible.t11 bailiffref09_Compatible.t12 bailiffref09_Compatible.t13 bailiffref09_Compatible.t14 bailiffref09_Compatible.t15 bailiffref09_Compatible.t16 .skip .skip .skip .skip .skip
def bailiffref09_Compatible.sX17 (t : DC) : DC := .kp [11, 12, 13, 14, 15] [] t
def bailiffref09_Compatible.tX18 (t0 t1 t2 t3 t4 t5 t6 t7 t8 t9 t10 t11 t12 t13 t14 t15 t16 t17 t18 t19 t20 t21 : DC) : DC :=
          (.seq
  (.opsc [
    ⟨some 101, (.mv (.t 10)), none⟩,
    ⟨some 102, (.mv (.t 101)), none⟩,
    ⟨some 103, (.load (some 16) (.t 7)), some (102, true)⟩,
    ⟨some 104, (.call 62 [(.t 103)] .bool []), some (102, true)⟩,
    ⟨some 105, (.pick (.t 102) (.t 104) (.c (.bool false))), none⟩] [5, 7, 11, 12, 13, 14, 105] [5, 7] t12)
           (bailiffref09_Compatible.sX17 t17))
def bailiffref09_Compatible.t18 : DC := bailiffref09_Compatible.tX18 bailiffref09_Compatible.t0 bailiffref09_Compatible.t1 bailiffref09_Compatible.t2 bailiffref09_Compatible.t3 bailiffref09_Compatible.t4 bailiffref09_Compatible.t5 bailiffref09_Compatible.t6 bailiffref09_Compatible.t7 bailiffref09_Compatible.t8 bailiffref09_Compatible.t9 bailiffref09_Compatible.t10 bailiffref09_Compatible.t11 bailiffref09_Compatible.t12 bailiffref09_Compatible.t13 bailiffref09_Compatible.t14 bailiffref09_Compatible.t15 bailiffref09_Compatible.t16 bailiffref09_Compatible.t17 .skip .skip .skip .skip
def bailiffref09_Compatible.sX18 (t : DC) : DC := .kp [5, 7, 10, 11, 12, 13, 14] [5, 7] t
def bailiffref09_Compatible.tX19 (t0 t1 t2 t3 t4 t5 t6 t7 t8 t9 t10 t11 t12 t13 t14 t15 t16 t17 t18 t19 t20 t21 : DC) : DC :=
         (.seq
  (.opsc [
    ⟨some 71, (.mv (.t 10)), none⟩,
    ⟨some 72, (.mv (.t 71)), none⟩,
    ⟨some 73, (.load (some 16) (.t 7)), some (72, true)⟩,
    ⟨some 74, (.call 63 [(.t 73)] .bool []), some (72, true)⟩,
    ⟨some 75, (.pick (.t 72) (.t 74) (.c (.bool false))), none⟩] [5, 7, 10, 11, 12, 13, 75] [5, 7] t9)
          (bailiffref09_Compatible.sX18 t18))
def bailiffref09_Compatible.t19 : DC := bailiffref09_Compatible.tX19 bailiffref09_Compatible.t0 bailiffref09_Compatible.t1 bailiffref09_Compatible.t2 bailiffref09_Compatible.t3 bailiffref09_Compatible.t4 bailiffref09_Compatible.t5 bailiffref09_Compatible.t6 bailiffref09_Compatible.t7 bailiffref09_Compatible.t8 bailiffref09_Compatible.t9 bailiffref09_Compatible.t10 bailiffref09_Compatible.t11 bailiffref09_Compatible.t12 bailiffref09_Compatible.t13 bailiffref09_Compatible.t14 bailiffref09_Compatible.t15 bailiffref09_Compatible.t16 bailiffref09_Compatible.t17 bailiffref09_Compatible.t18 .skip .skip .skip
def bailiffref09_Compatible.sX19 (t : DC) : DC := .kp [5, 7, 10, 11, 12, 13] [5, 7] t
def bailiffref09_Compatible.tX20 (t0 t1 t2 t3 t4 t5 t6 t7 t8 t9 t10 t11 t12 t13 t14 t15 t16 t17 t18 t19 t20 t21 : DC) : DC :=
        (.seq
  (.opsc [
    ⟨some 54, (.mv (.t 10)), none⟩,
    ⟨some 55, (.mv (.t 54)), none⟩,
    ⟨some 56, (.load (some 16) (.t 5)), some (55, true)⟩,
    ⟨some 57, (.call 63 [(.t 56)] .bool []), some (55, true)⟩,
    ⟨some 58, (.mv (.t 57)), some (55, true)⟩,
    ⟨some 59, (.load (some 16) (.t 7)), some (58, true)⟩,
    ⟨some 60, (.call 62 [(.t 59)] .bool []), some (58, true)⟩,
    ⟨some 61, (.pick (.t 58) (.t 60) (.c (.bool false))), some (55, true)⟩,
    ⟨some 62, (.mv (.t 61)), some (55, true)⟩,
    ⟨some 63, (.load (some 16) (.t 5)), some (62, false)⟩,
    ⟨some 64, (.call 62 [(.t 63)] .bool []), some (62, false)⟩,
    ⟨some 65, (.mv (.t 64)), some (62, false)⟩,
    ⟨some 66, (.load (some 16) (.t 7)), some (65, true)⟩,
    ⟨some 67, (.call 63 [(.t 66)] .bool []), some (65, true)⟩,
    ⟨some 68, (.pick (.t 65) (.t 67) (.c (.bool false))), some (62, false)⟩,
    ⟨some 69, (.pick (.t 62) (.c (.bool true)) (.t 68)), some (55, true)⟩,
    ⟨some 70, (.pick (.t 55) (.t 69) (.c (.bool false))), none⟩] [5, 7, 10, 11, 12, 70] [5, 7] t5)
         (bailiffref09_Compatible.sX19 t19))
def bailiffref09_Compatible.t20 : DC := bailiffref09_Compatible.tX20 bailiffref09_Compatible.t0 bailiffref09_Compatible.t1 bailiffref09_Compatible.t2 bailiffref09_Compatible.t3 bailiffref09_Compatible.t4 bailiffref09_Compatible.t5 bailiffref09_Compatible.t6 bailiffref09_Compatible.t7 bailiffref09_Compatible.t8 bailiffref09_Compatible.t9 bailiffref09_Compatible.t10 bailiffref09_Compatible.t11 bailiffref09_Compatible.t12 bailiffref09_Compatible.t13 bailiffref09_Compatible.t14 bailiffref09_Compatible.t15 bailiffref09_Compatible.t16 bailiffref09_Compatible.t17 bailiffref09_Compatible.t18 bailiffref09_Compatible.t19 .skip .skip
def bailiffref09_Compatible.sX20 (t : DC) : DC := .kp [5, 7, 10, 11, 12] [5, 7] t
def bailiffref09_Compatible.tX21 (t0 t1 t2 t3 t4 t5 t6 t7 t8 t9 t10 t11 t12 t13 t14 t15 t16 t17 t18 t19 t20 t21 : DC) : DC :=
       (.seq
  (.opsc [
    ⟨some 42, (.mv (.t 10)), none⟩,
    ⟨some 43, (.mv (.t 42)), none⟩,
    ⟨some 44, (.load (some 16) (.t 5)), some (43, true)⟩,
    ⟨some 45, (.call 61 [(.t 44), (.c (.int .u8 16))] .bool []), some (43, true)⟩,
    ⟨some 46, (.pick (.t 43) (.t 45) (.c (.bool false))), none⟩] [5, 7, 10, 11, 46] [5, 7] t4)
        (bailiffref09_Compatible.sX20 t20))
def bailiffref09_Compatible.t21 : DC := bailiffref09_Compatible.tX21 bailiffref09_Compatible.t0 bailiffref09_Compatible.t1 bailiffref09_Compatible.t2 bailiffref09_Compatible.t3 bailiffref09_Compatible.t4 bailiffref09_Compatible.t5 bailiffref09_Compatible.t6 bailiffref09_Compatible.t7 bailiffref09_Compatible.t8 bailiffref09_Compatible.t9 bailiffref09_Compatible.t10 bailiffref09_Compatible.t11 bailiffref09_Compatible.t12 bailiffref09_Compatible.t13 bailiffref09_Compatible.t14 bailiffref09_Compatible.t15 bailiffref09_Compatible.t16 bailiffref09_Compatible.t17 bailiffref09_Compatible.t18 bailiffref09_Compatible.t19 bailiffref09_Compatible.t20 .skip
def bailiffref09_Compatible.sX21 (t : DC) : DC := .kp [5, 7, 10, 11] [5, 7] t
def bailiffref09_Compatible.bodyX (t0 t1 t2 t3 t4 t5 t6 t7 t8 t9 t10 t11 t12 t13 t14 t15 t16 t17 t18 t19 t20 t21 : DC) : DC :=
  (.seq
   (.ops [
     ⟨some 5, (.box 5 (.t 1)), none⟩,
     ⟨some 7, (.box 7 (.t 3)), none⟩,
     ⟨some 8, (.mv (.c (.bool false))), none⟩,
     ⟨some 9, (.mv (.c (.int .i64 0))), none⟩])
   (.seq
    (.seq
     (.ops [
       ⟨some 16, (.load (some 16) (.t 5)), none⟩,
       ⟨some 17, (.call 59 [(.t 16)] (.int .i64) []), none⟩,
       ⟨some 18, (.bini .neq (.t 17) (.c (.int .i64 0))), none⟩,
       ⟨some 19, (.mv (.t 18)), none⟩,
       ⟨some 20, (.mv (.t 2)), some (19, false)⟩,
       ⟨some 21, (.mv (.t 20)), some (19, false)⟩,
       ⟨some 22, (.load (some 16) (.t 7)), some (21, true)⟩,
       ⟨some 23, (.call 64 [(.t 22)] .bool []), some (21, true)⟩,
       ⟨some 24, (.not (.t 23)), some (21, true)⟩,
       ⟨some 25, (.pick (.t 21) (.t 24) (.c (.bool false))), some (19, false)⟩,
       ⟨some 26, (.pick (.t 19) (.c (.bool true)) (.t 25)), none⟩])
     (bailiffref09_Compatible.sX0 t0))
    (.seq
     (.seq
      (.ops [
        ⟨some 27, (.mv (.t 2)), none⟩,
        ⟨some 28, (.not (.t 27)), none⟩])
      (.cond (.t 28)
       (.seq
        (.ops [
          ⟨some 29, (.mv (.t 0)), none⟩,
          ⟨some 8, (.mv (.t 29)), none⟩,
          ⟨some 9, (.mv (.c (.int .i64 0))), none⟩])
        .ret)
       .skip))
     (.seq
      (.ops [
        ⟨some 30, (.faddr 15 (.t 7)), none⟩,
        ⟨some 31, (.load none (.t 30)), none⟩,
        ⟨some 32, (.not (.t 31)), none⟩,
        ⟨some 10, (.mv (.t 32)), none⟩])
      (.seq
  (.opsc [
    ⟨some 33, (.mv (.t 10)), none⟩,
    ⟨some 34, (.mv (.t 33)), none⟩,
    ⟨some 35, (.load (some 16) (.t 5)), some (34, true)⟩,
    ⟨some 36, (.call 61 [(.t 35), (.c (.int .u8 32))] .bool []), some (34, true)⟩,
    ⟨some 37, (.pick (.t 34) (.t 36) (.c (.bool false))), none⟩] [5, 7, 10, 37] [5, 7] t2)
       (bailiffref09_Compatible.sX21 t21))))))
def bailiffref09_Compatible.body : DC := bailiffref09_Compatible.bodyX bailiffref09_Compatible.t0 bailiffref09_Compatible.t1 bailiffref09_Compatible.t2 bailiffref09_Compatible.t3 bailiffref09_Compatible.t4 bailiffref09_Compatible.t5 bailiffref09_Compatible.t6 bailiffref09_Compatible.t7 bailiffref09_Compatible.t8 bailiffref09_Compatible.t9 bailiffref09_Compatible.t10 bailiffref09_Compatible.t11 bailiffref09_Compatible.t12 bailiffref09_Compatible.t13 bailiffref09_Compatible.t14 bailiffref09_Compatible.t15 bailiffref09_Compatible.t16 bailiffref09_Compatible.t17 bailiffref09_Compatible.t18 bailiffref09_Compatible.t19 bailiffref09_Compatible.t20 bailiffref09_Compatible.t21
def bailiffref09_Compatible : FD := ⟨4, [.tmp 8, .tmp 9], bailiffref09_Compatible.body⟩
/-- 61 bailiff/bailiffref09.Has -/
def bailiffref09_Has.bodyX : DC :=
  (.seq
   (.ops [
     ⟨some 2, (.box 2 (.t 0)), none⟩,
     ⟨some 4, (.mv (.c (.bool false))), none⟩])
   (.seq
    (.ops [
      ⟨some 5, (.faddr 0 (.t 2)), none⟩,
      ⟨some 6, (.load none (.t 5)), none⟩,
      ⟨some 7, (.mv (.t 1)), none⟩,
      ⟨some 8, (.bini .quo (.t 6) (.t 7)), none⟩,
      ⟨some 9, (.bini .rem (.t 8) (.c (.int .u8 2))), none⟩,
      ⟨some 10, (.bini .eql (.t 9) (.c (.int .u8 1))), none⟩,
      ⟨some 4, (.mv (.t 10)), none⟩])
    .ret))
def bailiffref09_Has.body : DC := bailiffref09_Has.bodyX
def bailiffref09_Has : FD := ⟨2, [.tmp 4], bailiffref09_Has.body⟩
/-- 62 bailiff/bailiffref09.IsAccess -/
def bailiffref09_IsAccess.tX0 (t0 : DC) : DC :=
  (.ops [
    ⟨some 2, (.mv (.t 8)), none⟩])
def bailiffref09_IsAccess.t0 : DC := bailiffref09_IsAccess.tX0 .skip
def bailiffref09_IsAccess.bodyX (t0 : DC) : DC :=
  (.seq
   (.ops [
     ⟨some 1, (.box 1 (.t 0)), none⟩,
     ⟨some 2, (.mv (.c (.bool false))), none⟩])
   (.seq
  (.opsc [
    ⟨some 3, (.load (some 16) (.t 1)), none⟩,
    ⟨some 4, (.call 61 [(.t 3), (.c (.int .u8 4))] .bool []), none⟩,
    ⟨some 5, (.mv (.t 4)), none⟩,
    ⟨some 6, (.load (some 16) (.t 1)), some (5, false)⟩,
    ⟨some 7, (.call 61 [(.t 6), (.c (.int .u8 8))] .bool []), some (5, false)⟩,
    ⟨some 8, (.pick (.t 5) (.c (.bool true)) (.t 7)), none⟩] [8] [] t0)
    .ret))
def bailiffref09_IsAccess.body : DC := bailiffref09_IsAccess.bodyX bailiffref09_IsAccess.t0
def bailiffref09_IsAccess : FD := ⟨1, [.tmp 2], bailiffref09_IsAccess.body⟩
/-- 63 bailiff/bailiffref09.IsData -/
def bailiffref09_IsData.tX0 (t0 : DC) : DC :=
  (.ops [
    ⟨some 2, (.mv (.t 8)), none⟩])
def bailiffref09_IsData.t0 : DC := bailiffref09_IsData.tX0 .skip
def bailiffref09_IsData.bodyX (t0 : DC) : DC :=
  (.seq
   (.ops [
     ⟨some 1, (.box 1 (.t 0)), none⟩,
     ⟨some 2, (.mv (.c (.bool false))), none⟩])
   (.seq
  (.opsc [
    ⟨some 3, (.load (some 16) (.t 1)), none⟩,
    ⟨some 4, (.call 61 [(.t 3), (.c (.int .u8 1))] .bool []), none⟩,
    ⟨some 5, (.mv (.t 4)), none⟩,
    ⟨some 6, (.load (some 16) (.t 1)), some (5, false)⟩,
    ⟨some 7, (.call 61 [(.t 6), (.c (.int .u8 2))] .bool []), some (5, false)⟩,
    ⟨some 8, (.pick (.t 5) (.c (.bool true)) (.t 7)), none⟩] [8] [] t0)
    .ret))
def bailiffref09_IsData.body : DC := bailiffref09_IsData.bodyX bailiffref09_IsData.t0
def bailiffref09_IsData : FD := ⟨1, [.tmp 2], bailiffref09_IsData.body⟩
/-- 64 bailiff/bailiffref09.IsWhole -/
def bailiffref09_IsWhole.tX0 (t0 : DC) : DC :=
  (.ops [
    ⟨some 2, (.mv (.t 15)), none⟩])
def bailiffref09_IsWhole.t0 : DC := bailiffref09_IsWhole.tX0 .skip
def bailiffref09_IsWhole.bodyX (t0 : DC) : DC :=
  (.seq
   (.ops [
     ⟨some 1, (.box 1 (.t 0)), none⟩,
     ⟨some 2, (.mv (.c (.bool false))), none⟩])
   (.seq
  (.opsc [
    ⟨some 3, (.load (some 16) (.t 1)), none⟩,
    ⟨some 4, (.call 59 [(.t 3)] (.int .i64) []), none⟩,
    ⟨some 5, (.bini .eql (.t 4) (.c (.int .i64 0))), none⟩,
    ⟨some 6, (.mv (.t 5)), none⟩,
    ⟨some 7, (.faddr 0 (.t 1)), some (6, true)⟩,
    ⟨some 8, (.load none (.t 7)), some (6, true)⟩,
    ⟨some 9, (.bini .eql (.t 8) (.c (.int .u8 51))), some (6, true)⟩,
    ⟨some 10, (.mv (.t 9)), some (6, true)⟩,
    ⟨some 11, (.faddr 0 (.t 1)), some (10, false)⟩,
    ⟨some 12, (.load none (.t 11)), some (10, false)⟩,
    ⟨some 13, (.bini .eql (.t 12) (.c (.int .u8 60))), some (10, false)⟩,
    ⟨some 14, (.pick (.t 10) (.c (.bool true)) (.t 13)), some (6, true)⟩,
    ⟨some 15, (.pick (.t 6) (.t 14) (.c (.bool false))), none⟩] [15] [] t0)
    .ret))
def bailiffref09_IsWhole.body : DC := bailiffref09_IsWhole.bodyX bailiffref09_IsWhole.t0
def bailiffref09_IsWhole : FD := ⟨1, [.tmp 2], bailiffref09_IsWhole.body⟩
/-- 65 bailiff/bailiffref09.Whole -/
def bailiffref09_Whole.tX0 (t0 : DC) : DC :=
    (.seq
     (.ops [
       ⟨some 7, (.load (some 16) (.t 1)), none⟩,
       ⟨none, (.store 16 (.t 2) (.t 7)), none⟩])
     .ret)
def bailiffref09_Whole.t0 : DC := bailiffref09_Whole.tX0 .skip
def bailiffref09_Whole.sX0 (t : DC) : DC := .kp [1, 2] [1, 2] t
def bailiffref09_Whole.bodyX (t0 : DC) : DC :=
  (.seq
   (.ops [
     ⟨some 1, (.box 1 (.t 0)), none⟩,
     ⟨some 2, (.alloc 2 [(.int .u8 0), (.int .u8 0), (.float 0), (.str (bs [])), (.int .i64 0), (.int .u8 0), (.float 0), (.str (bs [])), (.int .i64 0), (.int .u8 0), (.float 0), (.str (bs [])), (.int .i64 0), (.bool false), (.bool false), (.bool false)] none), none⟩])
   (.seq
    (.seq
     (.ops [
       ⟨some 3, (.load (some 16) (.t 1)), none⟩,
       ⟨some 4, (.call 62 [(.t 3)] .bool []), none⟩])
     (.cond (.t 4)
      (.ops [
        ⟨some 5, (.faddr 0 (.t 1)), none⟩,
        ⟨none, (.store 1 (.t 5) (.c (.int .u8 60))), none⟩])
      (.ops [
        ⟨some 6, (.faddr 0 (.t 1)), none⟩,
        ⟨none, (.store 1 (.t 6) (.c (.int .u8 51))), none⟩])))
    (bailiffref09_Whole.sX0 t0)))
def bailiffref09_Whole.body : DC := bailiffref09_Whole.bodyX bailiffref09_Whole.t0
def bailiffref09_Whole : FD := ⟨1, [.cell 2 (some 16)], bailiffref09_Whole.body⟩
/-- 66 bailiff/bailiffref09.bare -/
def bailiffref09_bare.bodyX : DC :=
  (.seq
   (.ops [
     ⟨some 1, (.box 1 (.t 0)), none⟩,
     ⟨some 2, (.mv (.c (.bool false))), none⟩])
   (.seq
    (.ops [
      ⟨some 3, (.load (some 4) (.t 1)), none⟩,
      ⟨some 4, (.build [(.int .u8 0), (.float 0), (.str (bs [])), (.int .i64 0)] []), none⟩,
      ⟨some 5, (.call 45 [(.t 3), (.t 4)] .bool []), none⟩,
      ⟨some 2, (.mv (.t 5)), none⟩])
    .ret))
def bailiffref09_bare.body : DC := bailiffref09_bare.bodyX
def bailiffref09_bare : FD := ⟨1, [.tmp 2], bailiffref09_bare.body⟩
/-- 67 bailiff/bailiffref09.called -/
def bailiffref09_called.tX0 (t0 : DC) : DC :=
  (.ops [
    ⟨some 2, (.mv (.t 13)), none⟩])
def bailiffref09_called.t0 : DC := bailiffref09_called.tX0 .skip
def bailiffref09_called.bodyX (t0 : DC) : DC :=
  (.seq
   (.ops [
     ⟨some 1, (.box 1 (.t 0)), none⟩,
     ⟨some 2, (.mv (.c (.bool false))), none⟩])
   (.seq
  (.opsc [
    ⟨some 3, (.load (some 4) (.t 1)), none⟩,
    ⟨some 4, (.call 48 [(.t 3)] .bool []), none⟩,
    ⟨some 5, (.mv (.t 4)), none⟩,
    ⟨some 6, (.faddr 0 (.t 1)), some (5, true)⟩,
    ⟨some 7, (.load none (.t 6)), some (5, true)⟩,
    ⟨some 8, (.bini .eql (.t 7) (.c (.int .u8 0))), some (5, true)⟩,
    ⟨some 9, (.mv (.t 8)), some (5, true)⟩,
    ⟨some 10, (.load (some 4) (.t 1)), some (9, false)⟩,
    ⟨some 11, (.call 46 [(.t 10)] .bool []), some (9, false)⟩,
    ⟨some 12, (.pick (.t 9) (.c (.bool true)) (.t 11)), some (5, true)⟩,
    ⟨some 13, (.pick (.t 5) (.t 12) (.c (.bool false))), none⟩] [13] [] t0)
    .ret))
def bailiffref09_called.body : DC := bailiffref09_called.bodyX bailiffref09_called.t0
def bailiffref09_called : FD := ⟨1, [.tmp 2], bailiffref09_called.body⟩
/-- 124 bailiff/desc.Apply -/
def desc_Apply.tX0 (t0 t1 t2 t3 t4 t5 t6 t7 t8 t9 : DC) : DC :=
      (.cond (.t 27)
       (.seq
        (.ops [
          ⟨some 28, (.build [(.int .u8 0), (.int .u8 0), (.float 0), (.str (bs [])), (.int .i64 0), (.int .u8 0), (.float 0), (.str (bs [])), (.int .i64 0), (.int .u8 0), (.float 0), (.str (bs [])), (.int .i64 0), (.bool false), (.bool false), (.bool false)] []), none⟩,
          ⟨some 29, (.mv (.t 12)), none⟩,
          ⟨none, (.store 16 (.t 8) (.t 28)), none⟩,
          ⟨some 9, (.mv (.c (.bool false))), none⟩,
          ⟨some 10, (.mv (.t 29)), none⟩])
        .ret)
       .skip)
def desc_Apply.t0 : DC := desc_Apply.tX0 .skip .skip .skip .skip .skip .skip .skip .skip .skip .skip
def desc_Apply.sX0 (t : DC) : DC := .kp [2, 5, 7, 8, 12, 27] [5, 7, 8] t
def desc_Apply.tX1 (t0 t1 t2 t3 t4 t5 t6 t7 t8 t9 : DC) : DC :=
  (.ops [
    ⟨some 41, (.mv (.t 40)), none⟩,
    ⟨some 42, (.load (some 16) (.t 5)), some (41, false)⟩,
    ⟨some 43, (.call 128 [(.t 42)] .bool []), some (41, false)⟩,
    ⟨some 44, (.mv (.t 43)), some (41, false)⟩,
    ⟨some 45, (.load (some 16) (.t 7)), some (44, true)⟩,
    ⟨some 46, (.call 129 [(.t 45)] .bool []), some (44, true)⟩,
    ⟨some 47, (.pick (.t 44) (.t 46) (.c (.bool false))), some (41, false)⟩,
    ⟨some 48, (.pick (.t 41) (.c (.bool true)) (.t 47)), none⟩])
def desc_Apply.t1 : DC := desc_Apply.tX1 desc_Apply.t0 .skip .skip .skip .skip .skip .skip .skip .skip .skip
def desc_Apply.tX2 (t0 t1 t2 t3 t4 t5 t6 t7 t8 t9 : DC) : DC :=
         (.cond (.t 48)
          (.ops [
            ⟨some 49, (.faddr 0 (.t 5)), none⟩,
            ⟨some 50, (.load none (.t 49)), none⟩,
            ⟨some 51, (.bini .andNot (.t 50) (.c (.int .u8 48))), none⟩,
            ⟨some 52, (.faddr 14 (.t 7)), none⟩,
            ⟨some 53, (.load none (.t 52)), none⟩,
            ⟨some 54, (.faddr 15 (.t 7)), none⟩,
            ⟨some 55, (.load none (.t 54)), none⟩,
            ⟨some 56, (.build [(.int .u8 0), (.int .u8 0), (.float 0), (.str (bs [])), (.int .i64 0), (.int .u8 0), (.float 0), (.str (bs [])), (.int .i64 0), (.int .u8 0), (.float 0), (.str (bs [])), (.int .i64 0), (.bool false), (.bool false), (.bool false)] [((0, 1), (.t 51)), ((14, 1), (.t 53)), ((15, 1), (.t 55))]), none⟩,
            ⟨some 57, (.call 135 [(.t 56)] .dsc []), none⟩,
            ⟨none, (.store 16 (.t 13) (.t 57)), none⟩])
          .skip)
def desc_Apply.t2 : DC := desc_Apply.tX2 desc_Apply.t0 desc_Apply.t1 .skip .skip .skip .skip .skip .skip .skip .skip
def desc_Apply.sX2 (t : DC) : DC := .kp [5, 7, 8, 13, 48] [5, 7, 8, 13] t
def desc_Apply.tX3 (t0 t1 t2 t3 t4 t5 t6 t7 t8 t9 : DC) : DC :=
              (.seq
               (.ops [
                 ⟨some 100, (.load (some 16) (.t 13)), none⟩,
                 ⟨none, (.store 16 (.t 8) (.t 100)), none⟩,
                 ⟨some 9, (.mv (.c (.bool true))), none⟩,
                 ⟨some 10, (.mv (.c (.int .i64 0))), none⟩])
               .ret)
def desc_Apply.t3 : DC := desc_Apply.tX3 desc_Apply.t0 desc_Apply.t1 desc_Apply.t2 .skip .skip .skip .skip .skip .skip .skip
def desc_Apply.sX3 (t : DC) : DC := .kp [8, 13] [8, 13] t
def desc_Apply.tX4 (t0 t1 t2 t3 t4 t5 t6 t7 t8 t9 : DC) : DC :=
             (.seq
              (.seq
               (.ops [
                 ⟨some 93, (.faddr 0 (.t 5)), none⟩,
                 ⟨some 94, (.load none (.t 93)), none⟩,
                 ⟨some 95, (.bini .and (.t 94) (.c (.int .u8 32))), none⟩,
                 ⟨some 96, (.bini .neq (.t 95) (.c (.int .u8 0))), none⟩])
               (.cond (.t 96)
                (.ops [
                  ⟨some 97, (.faddr 15 (.t 5)), none⟩,
                  ⟨some 98, (.load none (.t 97)), none⟩,
                  ⟨some 99, (.faddr 15 (.t 13)), none⟩,
                  ⟨none, (.store 1 (.t 99) (.t 98)), none⟩])
                .skip))
              (desc_Apply.sX3 t3))
def desc_Apply.t4 : DC := desc_Apply.tX4 desc_Apply.t0 desc_Apply.t1 desc_Apply.t2 desc_Apply.t3 .skip .skip .skip .skip .skip .skip
def desc_Apply.sX4 (t : DC) : DC := .kp [5, 8, 13] [5, 8, 13] t
def desc_Apply.tX5 (t0 t1 t2 t3 t4 t5 t6 t7 t8 t9 : DC) : DC :=
            (.seq
             (.seq
              (.ops [
                ⟨some 86, (.faddr 0 (.t 5)), none⟩,
                ⟨some 87, (.load none (.t 86)), none⟩,
                ⟨some 88, (.bini .and (.t 87) (.c (.int .u8 16))), none⟩,
                ⟨some 89, (.bini .neq (.t 88) (.c (.int .u8 0))), none⟩])
              (.cond (.t 89)
               (.ops [
                 ⟨some 90, (.faddr 14 (.t 5)), none⟩,
                 ⟨some 91, (.load none (.t 90)), none⟩,
                 ⟨some 92, (.faddr 14 (.t 13)), none⟩,
                 ⟨none, (.store 1 (.t 92) (.t 91)), none⟩])
               .skip))
             (desc_Apply.sX4 t4))
def desc_Apply.t5 : DC := desc_Apply.tX5 desc_Apply.t0 desc_Apply.t1 desc_Apply.t2 desc_Apply.t3 desc_Apply.t4 .skip .skip .skip .skip .skip
def desc_Apply.sX5 (t : DC) : DC := .kp [5, 8, 13] [5, 8, 13] t
def desc_Apply.tX6 (t0 t1 t2 t3 t4 t5 t6 t7 t8 t9 : DC) : DC :=
           (.seq
            (.seq
             (.ops [
               ⟨some 79, (.faddr 0 (.t 5)), none⟩,
               ⟨some 80, (.load none (.t 79)), none⟩,
               ⟨some 81, (.bini .and (.t 80) (.c (.int .u8 8))), none⟩,
               ⟨some 82, (.bini .neq (.t 81) (.c (.int .u8 0))), none⟩])
             (.cond (.t 82)
              (.ops [
                ⟨some 83, (.faddr 9 (.t 5)), none⟩,
                ⟨some 84, (.load (some 4) (.t 83)), none⟩,
                ⟨some 85, (.faddr 9 (.t 13)), none⟩,
                ⟨none, (.store 4 (.t 85) (.t 84)), none⟩])
              .skip))
            (desc_Apply.sX5 t5))
def desc_Apply.t6 : DC := desc_Apply.tX6 desc_Apply.t0 desc_Apply.t1 desc_Apply.t2 desc_Apply.t3 desc_Apply.t4 desc_Apply.t5 .skip .skip .skip .skip
def desc_Apply.sX6 (t : DC) : DC := .kp [5, 8, 13] [5, 8, 13] t
def desc_Apply.tX7 (t0 t1 t2 t3 t4 t5 t6 t7 t8 t9 : DC) : DC :=
          (.seq
           (.seq
            (.ops [
              ⟨some 72, (.faddr 0 (.t 5)), none⟩,
              ⟨some 73, (.load none (.t 72)), none⟩,
              ⟨some 74, (.bini .and (.t 73) (.c (.int .u8 4))), none⟩,
              ⟨some 75, (.bini .neq (.t 74) (.c (.int .u8 0))), none⟩])
            (.cond (.t 75)
             (.ops [
               ⟨some 76, (.faddr 5 (.t 5)), none⟩,
               ⟨some 77, (.load (some 4) (.t 76)), none⟩,
               ⟨some 78, (.faddr 5 (.t 13)), none⟩,
               ⟨none, (.store 4 (.t 78) (.t 77)), none⟩])
             .skip))
           (desc_Apply.sX6 t6))
def desc_Apply.t7 : DC := desc_Apply.tX7 desc_Apply.t0 desc_Apply.t1 desc_Apply.t2 desc_Apply.t3 desc_Apply.t4 desc_Apply.t5 desc_Apply.t6 .skip .skip .skip
def desc_Apply.sX7 (t : DC) : DC := .kp [5, 8, 13] [5, 8, 13] t
def desc_Apply.tX8 (t0 t1 t2 t3 t4 t5 t6 t7 t8 t9 : DC) : DC :=
         (.seq
          (.seq
           (.ops [
             ⟨some 65, (.faddr 0 (.t 5)), none⟩,
             ⟨some 66, (.load none (.t 65)), none⟩,
             ⟨some 67, (.bini .and (.t 66) (.c (.int .u8 2))), none⟩,
             ⟨some 68, (.bini .neq (.t 67) (.c (.int .u8 0))), none⟩])
           (.cond (.t 68)
            (.ops [
              ⟨some 69, (.faddr 13 (.t 5)), none⟩,
              ⟨some 70, (.load none (.t 69)), none⟩,
              ⟨some 71, (.faddr 13 (.t 13)), none⟩,
              ⟨none, (.store 1 (.t 71) (.t 70)), none⟩])
            .skip))
          (desc_Apply.sX7 t7))
def desc_Apply.t8 : DC := desc_Apply.tX8 desc_Apply.t0 desc_Apply.t1 desc_Apply.t2 desc_Apply.t3 desc_Apply.t4 desc_Apply.t5 desc_Apply.t6 desc_Apply.t7 .skip .skip
def desc_Apply.sX8 (t : DC) : DC := .kp [5, 8, 13] [5, 8, 13] t
def desc_Apply.tX9 (t0 t1 t2 t3 t4 t5 t6 t7 t8 t9 : DC) : DC :=
        (.seq
         (.seq
          (.ops [
            ⟨some 58, (.faddr 0 (.t 5)), none⟩,
            ⟨some 59, (.load none (.t 58)), none⟩,
            ⟨some 60, (.bini .and (.t 59) (.c (.int .u8 1))), none⟩,
            ⟨some 61, (.bini .neq (.t 60) (.c (.int .u8 0))), none⟩])
          (.cond (.t 61)
           (.ops [
             ⟨some 62, (.faddr 1 (.t 5)), none⟩,
             ⟨some 63, (.load (some 4) (.t 62)), none⟩,
             ⟨some 64, (.faddr 1 (.t 13)), none⟩,
             ⟨none, (.store 4 (.t 64) (.t 63)), none⟩])
           .skip))
         (desc_Apply.sX8 t8))
def desc_Apply.t9 : DC := desc_Apply.tX9 desc_Apply.t0 desc_Apply.t1 desc_Apply.t2 desc_Apply.t3 desc_Apply.t4 desc_Apply.t5 desc_Apply.t6 desc_Apply.t7 desc_Apply.t8 .skip
def desc_Apply.sX9 (t : DC) : DC := .kp [5, 8, 13] [5, 8, 13] t
def desc_Apply.bodyX (t0 t1 t2 t3 t4 t5 t6 t7 t8 t9 : DC) : DC :=
  (.seq
   (.ops [
     ⟨some 5, (.box 5 (.t 1)), none⟩,
     ⟨some 7, (.box 7 (.t 3)), none⟩,
     ⟨some 8, (.alloc 8 [(.int .u8 0), (.int .u8 0), (.float 0), (.str (bs [])), (.int .i64 0), (.int .u8 0), (.float 0), (.str (bs [])), (.int .i64 0), (.int .u8 0), (.float 0), (.str (bs [])), (.int .i64 0), (.bool false), (.bool false), (.bool false)] none), none⟩,
     ⟨some 9, (.mv (.c (.bool false))), none⟩,
     ⟨some 10, (.mv (.c (.int .i64 0))), none⟩])
   (.seq
    (.ops [
      ⟨some 15, (.mv (.t 0)), none⟩,
      ⟨some 16, (.load (some 16) (.t 5)), none⟩,
      ⟨some 17, (.mv (.t 2)), none⟩,
      ⟨some 18, (.load (some 16) (.t 7)), none⟩,
      ⟨some 19, (.call 126 [(.t 15), (.t 16), (.t 17), (.t 18)] (.p2 .bool (.int .i64)) []), none⟩,
      ⟨some 14, (.mv (.t 19)), none⟩,
      ⟨some 20, (.ext (.t 14) 0), none⟩,
      ⟨some 21, (.ext (.t 14) 1), none⟩,
      ⟨some 11, (.mv (.t 20)), none⟩,
      ⟨some 12, (.mv (.t 21)), none⟩])
    (.seq
     (.seq
      (.ops [
        ⟨some 22, (.mv (.t 12)), none⟩,
        ⟨some 23, (.bini .neq (.t 22) (.c (.int .i64 0))), none⟩,
        ⟨some 24, (.mv (.t 23)), none⟩,
        ⟨some 25, (.mv (.t 11)), some (24, false)⟩,
        ⟨some 26, (.not (.t 25)), some (24, false)⟩,
        ⟨some 27, (.pick (.t 24) (.c (.bool true)) (.t 26)), none⟩])
      (desc_Apply.sX0 t0))
     (.seq
      (.seq
       (.ops [
         ⟨some 30, (.mv (.t 2)), none⟩,
         ⟨some 31, (.not (.t 30)), none⟩])
       (.cond (.t 31)
        (.seq
         (.ops [
           ⟨some 32, (.load (some 16) (.t 5)), none⟩,
           ⟨some 33, (.call 135 [(.t 32)] .dsc []), none⟩,
           ⟨none, (.store 16 (.t 8) (.t 33)), none⟩,
           ⟨some 9, (.mv (.c (.bool true))), none⟩,
           ⟨some 10, (.mv (.c (.int .i64 0))), none⟩])
         .ret)
        .skip))
      (.seq
       (.ops [
         ⟨some 34, (.load (some 16) (.t 7)), none⟩,
         ⟨some 13, (.alloc 13 [(.int .u8 0), (.int .u8 0), (.float 0), (.str (bs [])), (.int .i64 0), (.int .u8 0), (.float 0), (.str (bs [])), (.int .i64 0), (.int .u8 0), (.float 0), (.str (bs [])), (.int .i64 0), (.bool false), (.bool false), (.bool false)] none), none⟩,
         ⟨none, (.store 16 (.t 13) (.t 34)), none⟩])
       (.seq
        (.seq
  (.opsc [
    ⟨some 35, (.load (some 16) (.t 5)), none⟩,
    ⟨some 36, (.call 129 [(.t 35)] .bool []), none⟩,
    ⟨some 37, (.mv (.t 36)), none⟩,
    ⟨some 38, (.load (some 16) (.t 7)), some (37, true)⟩,
    ⟨some 39, (.call 128 [(.t 38)] .bool []), some (37, true)⟩,
    ⟨some 40, (.pick (.t 37) (.t 39) (.c (.bool false))), none⟩] [5, 7, 8, 13, 40] [5, 7, 8, 13] t1)
         (desc_Apply.sX2 t2))
        (desc_Apply.sX9 t9)))))))
def desc_Apply.body : DC := desc_Apply.bodyX desc_Apply.t0 desc_Apply.t1 desc_Apply.t2 desc_Apply.t3 desc_Apply.t4 desc_Apply.t5 desc_Apply.t6 desc_Apply.t7 desc_Apply.t8 desc_Apply.t9
def desc_Apply : FD := ⟨4, [.cell 8 (some 16), .tmp 9, .tmp 10], desc_Apply.body⟩
/-- 125 bailiff/desc.Check -/
def desc_Check.tX0 (t0 t1 t2 t3 t4 t5 t6 t7 t8 t9 : DC) : DC :=
  (.ops [
    ⟨some 31, (.mv (.t 30)), none⟩,
    ⟨some 32, (.faddr 9 (.t 1)), some (31, false)⟩,
    ⟨some 33, (.load (some 4) (.t 32)), some (31, false)⟩,
    ⟨some 34, (.call 133 [(.t 33)] .bool []), some (31, false)⟩,
    ⟨some 35, (.not (.t 34)), some (31, false)⟩,
    ⟨some 36, (.pick (.t 31) (.c (.bool true)) (.t 35)), none⟩])
def desc_Check.t0 : DC := desc_Check.tX0 .skip .skip .skip .skip .skip .skip .skip .skip .skip .skip
def desc_Check.tX1 (t0 t1 t2 t3 t4 t5 t6 t7 t8 t9 : DC) : DC :=
  (.opsc [
    ⟨some 25, (.mv (.t 24)), none⟩,
    ⟨some 26, (.faddr 5 (.t 1)), some (25, false)⟩,
    ⟨some 27, (.load (some 4) (.t 26)), some (25, false)⟩,
    ⟨some 28, (.call 133 [(.t 27)] .bool []), some (25, false)⟩,
    ⟨some 29, (.not (.t 28)), some (25, false)⟩,
    ⟨some 30, (.pick (.t 25) (.c (.bool true)) (.t 29)), none⟩] [1, 30] [1] t0)
def desc_Check.t1 : DC := desc_Check.tX1 desc_Check.t0 .skip .skip .skip .skip .skip .skip .skip .skip .skip
def desc_Check.tX2 (t0 t1 t2 t3 t4 t5 t6 t7 t8 t9 : DC) : DC :=
  (.opsc [
    ⟨some 19, (.mv (.t 18)), none⟩,
    ⟨some 20, (.faddr 1 (.t 1)), some (19, false)⟩,
    ⟨some 21, (.load (some 4) (.t 20)), some (19, false)⟩,
    ⟨some 22, (.call 182 [(.t 21)] .bool []), some (19, false)⟩,
    ⟨some 23, (.not (.t 22)), some (19, false)⟩,
    ⟨some 24, (.pick (.t 19) (.c (.bool true)) (.t 23)), none⟩] [1, 24] [1] t1)
def desc_Check.t2 : DC := desc_Check.tX2 desc_Check.t0 desc_Check.t1 .skip .skip .skip .skip .skip .skip .skip .skip
def desc_Check.tX3 (t0 t1 t2 t3 t4 t5 t6 t7 t8 t9 : DC) : DC :=
       (.cond (.t 36)
        (.seq
         (.ops [
           ⟨some 2, (.mv (.c (.int .i64 90))), none⟩])
         .ret)
        .skip)
def desc_Check.t3 : DC := desc_Check.tX3 desc_Check.t0 desc_Check.t1 desc_Check.t2 .skip .skip .skip .skip .skip .skip .skip
def desc_Check.sX3 (t : DC) : DC := .kp [1, 36] [1] t
def desc_Check.tX4 (t0 t1 t2 t3 t4 t5 t6 t7 t8 t9 : DC) : DC :=
  (.ops [
    ⟨some 60, (.mv (.t 59)), none⟩,
    ⟨some 61, (.mv (.t 4)), some (60, false)⟩,
    ⟨some 62, (.bini .and (.t 61) (.c (.int .u8 8))), some (60, false)⟩,
    ⟨some 63, (.bini .neq (.t 62) (.c (.int .u8 0))), some (60, false)⟩,
    ⟨some 64, (.mv (.t 63)), some (60, false)⟩,
    ⟨some 65, (.faddr 9 (.t 1)), some (64, true)⟩,
    ⟨some 66, (.load (some 4) (.t 65)), some (64, true)⟩,
    ⟨some 67, (.build [(.int .u8 0), (.float 0), (.str (bs [])), (.int .i64 0)] []), some (64, true)⟩,
    ⟨some 68, (.eqa true [0, 3, 2, 0] (.t 66) (.t 67)), some (64, true)⟩,
    ⟨some 69, (.pick (.t 64) (.t 68) (.c (.bool false))), some (60, false)⟩,
    ⟨some 70, (.pick (.t 60) (.c (.bool true)) (.t 69)), none⟩])
def desc_Check.t4 : DC := desc_Check.tX4 desc_Check.t0 desc_Check.t1 desc_Check.t2 desc_Check.t3 .skip .skip .skip .skip .skip .skip
def desc_Check.tX5 (t0 t1 t2 t3 t4 t5 t6 t7 t8 t9 : DC) : DC :=
  (.opsc [
    ⟨some 49, (.mv (.t 48)), none⟩,
    ⟨some 50, (.mv (.t 4)), some (49, false)⟩,
    ⟨some 51, (.bini .and (.t 50) (.c (.int .u8 4))), some (49, false)⟩,
    ⟨some 52, (.bini .neq (.t 51) (.c (.int .u8 0))), some (49, false)⟩,
    ⟨some 53, (.mv (.t 52)), some (49, false)⟩,
    ⟨some 54, (.faddr 5 (.t 1)), some (53, true)⟩,
    ⟨some 55, (.load (some 4) (.t 54)), some (53, true)⟩,
    ⟨some 56, (.build [(.int .u8 0), (.float 0), (.str (bs [])), (.int .i64 0)] []), some (53, true)⟩,
    ⟨some 57, (.eqa true [0, 3, 2, 0] (.t 55) (.t 56)), some (53, true)⟩,
    ⟨some 58, (.pick (.t 53) (.t 57) (.c (.bool false))), some (49, false)⟩,
    ⟨some 59, (.pick (.t 49) (.c (.bool true)) (.t 58)), none⟩] [1, 4, 59] [1] t4)
def desc_Check.t5 : DC := desc_Check.tX5 desc_Check.t0 desc_Check.t1 desc_Check.t2 desc_Check.t3 desc_Check.t4 .skip .skip .skip .skip .skip
def desc_Check.tX6 (t0 t1 t2 t3 t4 t5 t6 t7 t8 t9 : DC) : DC :=
         (.cond (.t 70)
          (.seq
           (.ops [
             ⟨some 2, (.mv (.c (.int .i64 90))), none⟩])
           .ret)
          .skip)
def desc_Check.t6 : DC := desc_Check.tX6 desc_Check.t0 desc_Check.t1 desc_Check.t2 desc_Check.t3 desc_Check.t4 desc_Check.t5 .skip .skip .skip .skip
def desc_Check.sX6 (t : DC) : DC := .kp [1, 4, 70] [1] t
def desc_Check.tX7 (t0 t1 t2 t3 t4 t5 t6 t7 t8 t9 : DC) : DC :=
  (.ops [
    ⟨some 87, (.mv (.t 86)), none⟩,
    ⟨some 88, (.mv (.t 4)), some (87, false)⟩,
    ⟨some 89, (.bini .and (.t 88) (.c (.int .u8 32))), some (87, false)⟩,
    ⟨some 90, (.bini .neq (.t 89) (.c (.int .u8 0))), some (87, false)⟩,
    ⟨some 91, (.mv (.t 90)), some (87, false)⟩,
    ⟨some 92, (.faddr 15 (.t 1)), some (91, true)⟩,
    ⟨some 93, (.load none (.t 92)), some (91, true)⟩,
    ⟨some 94, (.pick (.t 91) (.t 93) (.c (.bool false))), some (87, false)⟩,
    ⟨some 95, (.pick (.t 87) (.c (.bool true)) (.t 94)), none⟩])
def desc_Check.t7 : DC := desc_Check.tX7 desc_Check.t0 desc_Check.t1 desc_Check.t2 desc_Check.t3 desc_Check.t4 desc_Check.t5 desc_Check.t6 .skip .skip .skip
def desc_Check.tX8 (t0 t1 t2 t3 t4 t5 t6 t7 t8 t9 : DC) : DC :=
  (.opsc [
    ⟨some 78, (.mv (.t 77)), none⟩,
    ⟨some 79, (.mv (.t 4)), some (78, false)⟩,
    ⟨some 80, (.bini .and (.t 79) (.c (.int .u8 16))), some (78, false)⟩,
    ⟨some 81, (.bini .neq (.t 80) (.c (.int .u8 0))), some (78, false)⟩,
    ⟨some 82, (.mv (.t 81)), some (78, false)⟩,
    ⟨some 83, (.faddr 14 (.t 1)), some (82, true)⟩,
    ⟨some 84, (.load none (.t 83)), some (82, true)⟩,
    ⟨some 85, (.pick (.t 82) (.t 84) (.c (.bool false))), some (78, false)⟩,
    ⟨some 86, (.pick (.t 78) (.c (.bool true)) (.t 85)), none⟩] [1, 4, 86] [1] t7)
def desc_Check.t8 : DC := desc_Check.tX8 desc_Check.t0 desc_Check.t1 desc_Check.t2 desc_Check.t3 desc_Check.t4 desc_Check.t5 desc_Check.t6 desc_Check.t7 .skip .skip
def desc_Check.tX9 (t0 t1 t2 t3 t4 t5 t6 t7 t8 t9 : DC) : DC :=
          (.cond (.t 95)
           (.seq
            (.ops [
              ⟨some 2, (.mv (.c (.int .i64 90))), none⟩])
            .ret)
           .skip)
def desc_Check.t9 : DC := desc_Check.tX9 desc_Check.t0 desc_Check.t1 desc_Check.t2 desc_Check.t3 desc_Check.t4 desc_Check.t5 desc_Check.t6 desc_Check.t7 desc_Check.t8 .skip
def desc_Check.sX9 (t : DC) : DC := .kp [95] [] t
def desc_Check.bodyX (t0 t1 t2 t3 t4 t5 t6 t7 t8 t9 : DC) : DC :=
  (.seq
   (.ops [
     ⟨some 1, (.box 1 (.t 0)), none⟩,
     ⟨some 2, (.mv (.c (.int .i64 0))), none⟩])
   (.seq
    (.ops [
      ⟨some 5, (.faddr 0 (.t 1)), none⟩,
      ⟨some 6, (.load none (.t 5)), none⟩,
      ⟨some 3, (.mv (.t 6)), none⟩])
    (.seq
     (.ops [
       ⟨some 7, (.mv (.t 3)), none⟩,
       ⟨some 8, (.bini .andNot (.t 7) (.c (.int .u8 63))), none⟩,
       ⟨some 3, (.mv (.t 8)), none⟩])
     (.seq
      (.seq
  (.opsc [
    ⟨some 9, (.mv (.t 3)), none⟩,
    ⟨some 10, (.bini .neq (.t 9) (.c (.int .u8 0))), none⟩,
    ⟨some 11, (.mv (.t 10)), none⟩,
    ⟨some 12, (.load (some 16) (.t 1)), some (11, false)⟩,
    ⟨some 13, (.call 129 [(.t 12)] .bool []), some (11, false)⟩,
    ⟨some 14, (.mv (.t 13)), some (11, false)⟩,
    ⟨some 15, (.load (some 16) (.t 1)), some (14, true)⟩,
    ⟨some 16, (.call 128 [(.t 15)] .bool []), some (14, true)⟩,
    ⟨some 17, (.pick (.t 14) (.t 16) (.c (.bool false))), some (11, false)⟩,
    ⟨some 18, (.pick (.t 11) (.c (.bool true)) (.t 17)), none⟩] [1, 18] [1] t2)
       (desc_Check.sX3 t3))
      (.seq
       (.ops [
         ⟨some 37, (.faddr 0 (.t 1)), none⟩,
         ⟨some 38, (.load none (.t 37)), none⟩,
         ⟨some 39, (.xor (.t 38)), none⟩,
         ⟨some 4, (.mv (.t 39)), none⟩])
       (.seq
        (.seq
  (.opsc [
    ⟨some 40, (.mv (.t 4)), none⟩,
    ⟨some 41, (.bini .and (.t 40) (.c (.int .u8 1))), none⟩,
    ⟨some 42, (.bini .neq (.t 41) (.c (.int .u8 0))), none⟩,
    ⟨some 43, (.mv (.t 42)), none⟩,
    ⟨some 44, (.faddr 1 (.t 1)), some (43, true)⟩,
    ⟨some 45, (.load (some 4) (.t 44)), some (43, true)⟩,
    ⟨some 46, (.build [(.int .u8 0), (.float 0), (.str (bs [])), (.int .i64 0)] []), some (43, true)⟩,
    ⟨some 47, (.eqa true [0, 3, 2, 0] (.t 45) (.t 46)), some (43, true)⟩,
    ⟨some 48, (.pick (.t 43) (.t 47) (.c (.bool false))), none⟩] [1, 4, 48] [1] t5)
         (desc_Check.sX6 t6))
        (.seq
         (.seq
  (.opsc [
    ⟨some 71, (.mv (.t 4)), none⟩,
    ⟨some 72, (.bini .and (.t 71) (.c (.int .u8 2))), none⟩,
    ⟨some 73, (.bini .neq (.t 72) (.c (.int .u8 0))), none⟩,
    ⟨some 74, (.mv (.t 73)), none⟩,
    ⟨some 75, (.faddr 13 (.t 1)), some (74, true)⟩,
    ⟨some 76, (.load none (.t 75)), some (74, true)⟩,
    ⟨some 77, (.pick (.t 74) (.t 76) (.c (.bool false))), none⟩] [1, 4, 77] [1] t8)
          (desc_Check.sX9 t9))
         (.seq
          (.ops [
            ⟨some 2, (.mv (.c (.int .i64 0))), none⟩])
          .ret))))))))
def desc_Check.body : DC := desc_Check.bodyX desc_Check.t0 desc_Check.t1 desc_Check.t2 desc_Check.t3 desc_Check.t4 desc_Check.t5 desc_Check.t6 desc_Check.t7 desc_Check.t8 desc_Check.t9
def desc_Check : FD := ⟨1, [.tmp 2], desc_Check.body⟩
/-- 126 bailiff/desc.Compatible -/
def desc_Compatible.bodyX : DC :=
  (.seq
   (.ops [
     ⟨some 5, (.box 5 (.t 1)), none⟩,
     ⟨some 7, (.box 7 (.t 3)), none⟩,
     ⟨some 8, (.mv (.c (.bool false))), none⟩,
     ⟨some 9, (.mv (.c (.int .i64 0))), none⟩])
   (.seq
    (.seq
     (.ops [
       ⟨some 11, (.load (some 16) (.t 5)), none⟩,
       ⟨some 12, (.mv (.t 2)), none⟩,
       ⟨some 13, (.load (some 16) (.t 7)), none⟩,
       ⟨some 14, (.call 132 [(.t 11), (.t 12), (.t 13)] (.int .i64) []), none⟩,
       ⟨some 10, (.mv (.t 14)), none⟩])
     (.seq
      (.ops [
        ⟨some 15, (.mv (.t 10)), none⟩,
        ⟨some 16, (.bini .neq (.t 15) (.c (.int .i64 0))), none⟩])
      (.cond (.t 16)
       (.seq
        (.ops [
          ⟨some 17, (.mv (.t 10)), none⟩,
          ⟨some 8, (.mv (.c (.bool false))), none⟩,
          ⟨some 9, (.mv (.t 17)), none⟩])
        .ret)
       .skip)))
    (.seq
     (.seq
      (.ops [
        ⟨some 18, (.mv (.t 2)), none⟩,
        ⟨some 19, (.not (.t 18)), none⟩])
      (.cond (.t 19)
       (.seq
        (.ops [
          ⟨some 20, (.mv (.t 0)), none⟩,
          ⟨some 8, (.mv (.t 20)), none⟩,
          ⟨some 9, (.mv (.c (.int .i64 0))), none⟩])
        .ret)
       .skip))
     (.seq
      (.ops [
        ⟨some 21, (.load (some 16) (.t 5)), none⟩,
        ⟨some 22, (.load (some 16) (.t 7)), none⟩,
        ⟨some 23, (.call 134 [(.t 21), (.t 22)] .bool []), none⟩,
        ⟨some 8, (.mv (.t 23)), none⟩,
        ⟨some 9, (.mv (.c (.int .i64 0))), none⟩])
      .ret))))
def desc_Compatible.body : DC := desc_Compatible.bodyX
def desc_Compatible : FD := ⟨4, [.tmp 8, .tmp 9], desc_Compatible.body⟩
/-- 128 bailiff/desc.IsAccess -/
def desc_IsAccess.bodyX : DC :=
  (.seq
   (.ops [
     ⟨some 1, (.box 1 (.t 0)), none⟩,
     ⟨some 2, (.mv (.c (.bool false))), none⟩])
   (.seq
    (.ops [
      ⟨some 3, (.faddr 0 (.t 1)), none⟩,
      ⟨some 4, (.load none (.t 3)), none⟩,
      ⟨some 5, (.bini .and (.t 4) (.c (.int .u8 12))), none⟩,
      ⟨some 6, (.bini .neq (.t 5) (.c (.int .u8 0))), none⟩,
      ⟨some 2, (.mv (.t 6)), none⟩])
    .ret))
def desc_IsAccess.body : DC := desc_IsAccess.bodyX
def desc_IsAccess : FD := ⟨1, [.tmp 2], desc_IsAccess.body⟩
/-- 129 bailiff/desc.IsData -/
def desc_IsData.bodyX : DC :=
  (.seq
   (.ops [
     ⟨some 1, (.box 1 (.t 0)), none⟩,
     ⟨some 2, (.mv (.c (.bool false))), none⟩])
   (.seq
    (.ops [
      ⟨some 3, (.faddr 0 (.t 1)), none⟩,
      ⟨some 4, (.load none (.t 3)), none⟩,
      ⟨some 5, (.bini .and (.t 4) (.c (.int .u8 3))), none⟩,
      ⟨some 6, (.bini .neq (.t 5) (.c (.int .u8 0))), none⟩,
      ⟨some 2, (.mv (.t 6)), none⟩])
    .ret))
def desc_IsData.body : DC := desc_IsData.bodyX
def desc_IsData : FD := ⟨1, [.tmp 2], desc_IsData.body⟩
/-- 130 bailiff/desc.IsPlain -/
def desc_IsPlain.bodyX : DC :=
  (.seq
   (.ops [
     ⟨some 1, (.box 1 (.t 0)), none⟩,
     ⟨some 2, (.mv (.c (.bool false))), none⟩])
   (.seq
    (.ops [
      ⟨some 3, (.faddr 0 (.t 1)), none⟩,
      ⟨some 4, (.load none (.t 3)), none⟩,
      ⟨some 5, (.bini .and (.t 4) (.c (.int .u8 15))), none⟩,
      ⟨some 6, (.bini .eql (.t 5) (.c (.int .u8 0))), none⟩,
      ⟨some 2, (.mv (.t 6)), none⟩])
    .ret))
def desc_IsPlain.body : DC := desc_IsPlain.bodyX
def desc_IsPlain : FD := ⟨1, [.tmp 2], desc_IsPlain.body⟩
/-- 132 bailiff/desc.asked -/
def desc_asked.bodyX : DC :=
  (.seq
   (.ops [
     ⟨some 3, (.box 3 (.t 0)), none⟩,
     ⟨some 5, (.box 5 (.t 2)), none⟩,
     ⟨some 6, (.mv (.c (.int .i64 0))), none⟩])
   (.seq
    (.seq
     (.ops [
       ⟨some 8, (.load (some 16) (.t 3)), none⟩,
       ⟨some 9, (.call 125 [(.t 8)] (.int .i64) []), none⟩,
       ⟨some 7, (.mv (.t 9)), none⟩])
     (.seq
      (.ops [
        ⟨some 10, (.mv (.t 7)), none⟩,
        ⟨some 11, (.bini .neq (.t 10) (.c (.int .i64 0))), none⟩])
      (.cond (.t 11)
       (.seq
        (.ops [
          ⟨some 12, (.mv (.t 7)), none⟩,
          ⟨some 6, (.mv (.t 12)), none⟩])
        .ret)
       .skip)))
    (.seq
     (.seq
      (.draw [
        ⟨some 13, (.mv (.t 1)), none⟩,
        ⟨some 14, (.mv (.t 13)), none⟩,
        ⟨some 15, (.load (some 16) (.t 5)), some (14, true)⟩,
        ⟨some 16, (.call 125 [(.t 15)] (.int .i64) []), some (14, true)⟩,
        ⟨some 17, (.bini .neq (.t 16) (.c (.int .i64 0))), some (14, true)⟩,
        ⟨some 18, (.mv (.t 17)), some (14, true)⟩,
        ⟨some 19, (.faddr 0 (.t 5)), some (18, false)⟩,
        ⟨some 20, (.load none (.t 19)), some (18, false)⟩,
        ⟨some 21, (.load (some 16) (.t 5)), some (18, false)⟩,
        ⟨some 22, (.call 135 [(.t 21)] .dsc []), some (18, false)⟩,
        ⟨some 23, (.field 0 none (.t 22)), some (18, false)⟩,
        ⟨some 24, (.bini .neq (.t 20) (.t 23)), some (18, false)⟩,
        ⟨some 25, (.pick (.t 18) (.c (.bool true)) (.t 24)), some (14, true)⟩,
        ⟨some 26, (.pick (.t 14) (.t 25) (.c (.bool false))), none⟩] [[], [0], [0, 1], [0, 1, 2], [0, 1, 2, 3], [0, 1, 2, 3, 4], [0, 1, 2, 3, 4, 5], [0, 1, 2, 3, 4, 5, 6], [0, 1, 2, 3, 4, 5], [0, 1, 2, 3, 4, 5, 8], [0, 1, 2, 3, 4, 5, 8, 9], [0, 1, 2, 3, 4, 5, 6, 7, 8, 9, 10], [0, 1, 2, 3, 4, 5, 6, 7, 8, 9, 10, 11], [0, 1, 2, 3, 4, 5, 6, 7, 8, 9, 10, 11, 12]])
      (.cond (.t 26)
       (.seq
        (.ops [
          ⟨some 6, (.mv (.c (.int .i64 90))), none⟩])
        .ret)
       .skip))
     (.seq
      (.ops [
        ⟨some 6, (.mv (.c (.int .i64 0))), none⟩])
      .ret))))
def desc_asked.body : DC := desc_asked.bodyX
def desc_asked : FD := ⟨3, [.tmp 6], desc_asked.body⟩
/-- 133 bailiff/desc.called -/
def desc_called.tX0 (t0 : DC) : DC :=
  (.ops [
    ⟨some 2, (.mv (.t 13)), none⟩])
def desc_called.t0 : DC := desc_called.tX0 .skip
def desc_called.bodyX (t0 : DC) : DC :=
  (.seq
   (.ops [
     ⟨some 1, (.box 1 (.t 0)), none⟩,
     ⟨some 2, (.mv (.c (.bool false))), none⟩])
   (.seq
  (.opsc [
    ⟨some 3, (.load (some 4) (.t 1)), none⟩,
    ⟨some 4, (.call 182 [(.t 3)] .bool []), none⟩,
    ⟨some 5, (.mv (.t 4)), none⟩,
    ⟨some 6, (.faddr 0 (.t 1)), some (5, true)⟩,
    ⟨some 7, (.load none (.t 6)), some (5, true)⟩,
    ⟨some 8, (.bini .eql (.t 7) (.c (.int .u8 0))), some (5, true)⟩,
    ⟨some 9, (.mv (.t 8)), some (5, true)⟩,
    ⟨some 10, (.load (some 4) (.t 1)), some (9, false)⟩,
    ⟨some 11, (.call 180 [(.t 10)] .bool []), some (9, false)⟩,
    ⟨some 12, (.pick (.t 9) (.c (.bool true)) (.t 11)), some (5, true)⟩,
    ⟨some 13, (.pick (.t 5) (.t 12) (.c (.bool false))), none⟩] [13] [] t0)
    .ret))
def desc_called.body : DC := desc_called.bodyX desc_called.t0
def desc_called : FD := ⟨1, [.tmp 2], desc_called.body⟩
/-- 134 bailiff/desc.may -/
def desc_may.tX0 (t0 t1 t2 t3 t4 : DC) : DC :=
  (.ops [
    ⟨some 10, (.mv (.t 21)), none⟩])
def desc_may.t0 : DC := desc_may.tX0 .skip .skip .skip .skip .skip
def desc_may.tX1 (t0 t1 t2 t3 t4 : DC) : DC :=
  (.ops [
    ⟨some 4, (.mv (.t 53)), none⟩])
def desc_may.t1 : DC := desc_may.tX1 desc_may.t0 .skip .skip .skip .skip
def desc_may.tX2 (t0 t1 t2 t3 t4 : DC) : DC :=
         (.cond (.t 10)
          (.seq
           (.ops [
             ⟨some 4, (.mv (.c (.bool false))), none⟩])
           .ret)
          (.seq
           (.ops [
             ⟨some 23, (.load (some 16) (.t 2)), none⟩,
             ⟨some 24, (.call 130 [(.t 23)] .bool []), none⟩,
             ⟨some 22, (.mv (.t 24)), none⟩])
           (.cond (.t 22)
            (.seq
             (.ops [
               ⟨some 4, (.mv (.c (.bool true))), none⟩])
             .ret)
            (.seq
             (.draw [
               ⟨some 26, (.load (some 16) (.t 2)), none⟩,
               ⟨some 27, (.call 129 [(.t 26)] .bool []), none⟩,
               ⟨some 28, (.load (some 16) (.t 3)), none⟩,
               ⟨some 29, (.call 129 [(.t 28)] .bool []), none⟩,
               ⟨some 30, (.eqb true (.t 27) (.t 29)), none⟩,
               ⟨some 25, (.mv (.t 30)), none⟩] [[], [0], [], [0, 1, 2], [0, 1, 2, 3], [0, 1, 2, 3, 4]])
             (.cond (.t 25)
              (.seq
               (.ops [
                 ⟨some 4, (.mv (.c (.bool false))), none⟩])
               .ret)
              (.seq
               (.ops [
                 ⟨some 32, (.load (some 16) (.t 2)), none⟩,
                 ⟨some 33, (.call 129 [(.t 32)] .bool []), none⟩,
                 ⟨some 31, (.mv (.t 33)), none⟩])
               (.cond (.t 31)
                (.seq
  (.opsc [
    ⟨some 34, (.faddr 13 (.t 3)), none⟩,
    ⟨some 35, (.load none (.t 34)), none⟩,
    ⟨some 36, (.mv (.t 35)), none⟩,
    ⟨some 37, (.faddr 13 (.t 2)), some (36, false)⟩,
    ⟨some 38, (.load none (.t 37)), some (36, false)⟩,
    ⟨some 39, (.not (.t 38)), some (36, false)⟩,
    ⟨some 40, (.mv (.t 39)), some (36, false)⟩,
    ⟨some 41, (.faddr 0 (.t 2)), some (40, true)⟩,
    ⟨some 42, (.load none (.t 41)), some (40, true)⟩,
    ⟨some 43, (.bini .and (.t 42) (.c (.int .u8 1))), some (40, true)⟩,
    ⟨some 44, (.bini .eql (.t 43) (.c (.int .u8 0))), some (40, true)⟩,
    ⟨some 45, (.mv (.t 44)), some (40, true)⟩,
    ⟨some 46, (.faddr 1 (.t 2)), some (45, false)⟩,
    ⟨some 47, (.load (some 4) (.t 46)), some (45, false)⟩,
    ⟨some 48, (.faddr 1 (.t 3)), some (45, false)⟩,
    ⟨some 49, (.load (some 4) (.t 48)), some (45, false)⟩,
    ⟨some 50, (.call 184 [(.t 47), (.t 49)] .bool []), some (45, false)⟩,
    ⟨some 51, (.pick (.t 45) (.c (.bool true)) (.t 50)), some (40, true)⟩,
    ⟨some 52, (.pick (.t 40) (.t 51) (.c (.bool false))), some (36, false)⟩,
    ⟨some 53, (.pick (.t 36) (.c (.bool true)) (.t 52)), none⟩] [53] [] t1)
                 .ret)
                .skip)))))))
def desc_may.t2 : DC := desc_may.tX2 desc_may.t0 desc_may.t1 .skip .skip .skip
def desc_may.sX2 (t : DC) : DC := .kp [2, 3, 10] [2, 3] t
def desc_may.tX3 (t0 t1 t2 t3 t4 : DC) : DC :=
  (.ops [
    ⟨some 4, (.mv (.t 77)), none⟩])
def desc_may.t3 : DC := desc_may.tX3 desc_may.t0 desc_may.t1 desc_may.t2 .skip .skip
def desc_may.tX4 (t0 t1 t2 t3 t4 : DC) : DC :=
  (.opsc [
    ⟨some 65, (.mv (.t 64)), none⟩,
    ⟨some 66, (.faddr 0 (.t 2)), some (65, true)⟩,
    ⟨some 67, (.load none (.t 66)), some (65, true)⟩,
    ⟨some 68, (.bini .and (.t 67) (.c (.int .u8 8))), some (65, true)⟩,
    ⟨some 69, (.bini .eql (.t 68) (.c (.int .u8 0))), some (65, true)⟩,
    ⟨some 70, (.mv (.t 69)), some (65, true)⟩,
    ⟨some 71, (.faddr 9 (.t 2)), some (70, false)⟩,
    ⟨some 72, (.load (some 4) (.t 71)), some (70, false)⟩,
    ⟨some 73, (.faddr 9 (.t 3)), some (70, false)⟩,
    ⟨some 74, (.load (some 4) (.t 73)), some (70, false)⟩,
    ⟨some 75, (.call 184 [(.t 72), (.t 74)] .bool []), some (70, false)⟩,
    ⟨some 76, (.pick (.t 70) (.c (.bool true)) (.t 75)), some (65, true)⟩,
    ⟨some 77, (.pick (.t 65) (.t 76) (.c (.bool false))), none⟩] [77] [] t3)
def desc_may.t4 : DC := desc_may.tX4 desc_may.t0 desc_may.t1 desc_may.t2 desc_may.t3 .skip
def desc_may.bodyX (t0 t1 t2 t3 t4 : DC) : DC :=
  (.seq
   (.ops [
     ⟨some 2, (.box 2 (.t 0)), none⟩,
     ⟨some 3, (.box 3 (.t 1)), none⟩,
     ⟨some 4, (.mv (.c (.bool false))), none⟩])
   (.seq
    (.seq
     (.ops [
       ⟨some 5, (.faddr 15 (.t 3)), none⟩,
       ⟨some 6, (.load none (.t 5)), none⟩])
     (.cond (.t 6)
      (.seq
       (.ops [
         ⟨some 4, (.mv (.c (.bool true))), none⟩])
       .ret)
      .skip))
    (.seq
     (.block 0
      (.seq
       (.ops [
         ⟨some 8, (.faddr 15 (.t 2)), none⟩,
         ⟨some 9, (.load none (.t 8)), none⟩,
         ⟨some 7, (.mv (.t 9)), none⟩])
       (.cond (.t 7)
        (.seq
         (.ops [
           ⟨some 4, (.mv (.c (.bool false))), none⟩])
         .ret)
        (.seq
  (.opsc [
    ⟨some 11, (.faddr 0 (.t 2)), none⟩,
    ⟨some 12, (.load none (.t 11)), none⟩,
    ⟨some 13, (.bini .and (.t 12) (.c (.int .u8 16))), none⟩,
    ⟨some 14, (.bini .neq (.t 13) (.c (.int .u8 0))), none⟩,
    ⟨some 15, (.mv (.t 14)), none⟩,
    ⟨some 16, (.faddr 14 (.t 2)), some (15, true)⟩,
    ⟨some 17, (.load none (.t 16)), some (15, true)⟩,
    ⟨some 18, (.faddr 14 (.t 3)), some (15, true)⟩,
    ⟨some 19, (.load none (.t 18)), some (15, true)⟩,
    ⟨some 20, (.eqb true (.t 17) (.t 19)), some (15, true)⟩,
    ⟨some 21, (.pick (.t 15) (.t 20) (.c (.bool false))), none⟩] [2, 3, 21] [2, 3] t0)
         (desc_may.sX2 t2)))))
     (.seq
  (.opsc [
    ⟨some 54, (.faddr 0 (.t 2)), none⟩,
    ⟨some 55, (.load none (.t 54)), none⟩,
    ⟨some 56, (.bini .and (.t 55) (.c (.int .u8 4))), none⟩,
    ⟨some 57, (.bini .eql (.t 56) (.c (.int .u8 0))), none⟩,
    ⟨some 58, (.mv (.t 57)), none⟩,
    ⟨some 59, (.faddr 5 (.t 2)), some (58, false)⟩,
    ⟨some 60, (.load (some 4) (.t 59)), some (58, false)⟩,
    ⟨some 61, (.faddr 5 (.t 3)), some (58, false)⟩,
    ⟨some 62, (.load (some 4) (.t 61)), some (58, false)⟩,
    ⟨some 63, (.call 184 [(.t 60), (.t 62)] .bool []), some (58, false)⟩,
    ⟨some 64, (.pick (.t 58) (.c (.bool true)) (.t 63)), none⟩] [2, 3, 64] [2, 3] t4)
      .ret))))
def desc_may.body : DC := desc_may.bodyX desc_may.t0 desc_may.t1 desc_may.t2 desc_may.t3 desc_may.t4
def desc_may : FD := ⟨2, [.tmp 4], desc_may.body⟩
/-- 135 bailiff/desc.whole -/
def desc_whole.tX0 (t0 : DC) : DC :=
    (.seq
     (.ops [
       ⟨some 13, (.load (some 16) (.t 1)), none⟩,
       ⟨none, (.store 16 (.t 2) (.t 13)), none⟩])
     .ret)
def desc_whole.t0 : DC := desc_whole.tX0 .skip
def desc_whole.sX0 (t : DC) : DC := .kp [1, 2] [1, 2] t
def desc_whole.bodyX (t0 : DC) : DC :=
  (.seq
   (.ops [
     ⟨some 1, (.box 1 (.t 0)), none⟩,
     ⟨some 2, (.alloc 2 [(.int .u8 0), (.int .u8 0), (.float 0), (.str (bs [])), (.int .i64 0), (.int .u8 0), (.float 0), (.str (bs [])), (.int .i64 0), (.int .u8 0), (.float 0), (.str (bs [])), (.int .i64 0), (.bool false), (.bool false), (.bool false)] none), none⟩])
   (.seq
    (.seq
     (.ops [
       ⟨some 3, (.load (some 16) (.t 1)), none⟩,
       ⟨some 4, (.call 128 [(.t 3)] .bool []), none⟩])
     (.cond (.t 4)
      (.ops [
        ⟨some 5, (.faddr 0 (.t 1)), none⟩,
        ⟨some 6, (.load none (.t 5)), none⟩,
        ⟨some 7, (.bini .or (.t 6) (.c (.int .u8 60))), none⟩,
        ⟨some 8, (.faddr 0 (.t 1)), none⟩,
        ⟨none, (.store 1 (.t 8) (.t 7)), none⟩])
      (.ops [
        ⟨some 9, (.faddr 0 (.t 1)), none⟩,
        ⟨some 10, (.load none (.t 9)), none⟩,
        ⟨some 11, (.bini .or (.t 10) (.c (.int .u8 51))), none⟩,
        ⟨some 12, (.faddr 0 (.t 1)), none⟩,
        ⟨none, (.store 1 (.t 12) (.t 11)), none⟩])))
    (desc_whole.sX0 t0)))
def desc_whole.body : DC := desc_whole.bodyX desc_whole.t0
def desc_whole : FD := ⟨1, [.cell 2 (some 16)], desc_whole.body⟩
/-- 161 bailiff/num.May -/
def num_May.tX0 (t0 : DC) : DC :=
  (.ops [
    ⟨some 2, (.mv (.t 25)), none⟩])
def num_May.t0 : DC := num_May.tX0 .skip
def num_May.bodyX (t0 : DC) : DC :=
  (.seq
   (.ops [
     ⟨some 2, (.mv (.c (.bool false))), none⟩])
   (.seq
  (.opsc [
    ⟨some 3, (.mv (.t 0)), none⟩,
    ⟨some 4, (.mv (.t 0)), none⟩,
    ⟨some 5, (.binf .neq (.t 3) (.t 4)), none⟩,
    ⟨some 6, (.mv (.t 5)), none⟩,
    ⟨some 7, (.mv (.t 0)), some (6, false)⟩,
    ⟨some 8, (.call 213 [(.t 7)] .float []), some (6, false)⟩,
    ⟨some 9, (.mv (.t 0)), some (6, false)⟩,
    ⟨some 10, (.binf .eql (.t 8) (.t 9)), some (6, false)⟩,
    ⟨some 11, (.mv (.t 10)), some (6, false)⟩,
    ⟨some 12, (.mv (.t 0)), some (11, true)⟩,
    ⟨some 13, (.call 207 [(.t 12)] .float []), some (11, true)⟩,
    ⟨some 14, (.binf .leq (.t 13) (.c (.float 4845873199050653695))), some (11, true)⟩,
    ⟨some 15, (.pick (.t 11) (.t 14) (.c (.bool false))), some (6, false)⟩,
    ⟨some 16, (.mv (.t 15)), some (6, false)⟩,
    ⟨some 17, (.mv (.t 0)), some (16, true)⟩,
    ⟨some 18, (.binf .neq (.t 17) (.c (.float 0))), some (16, true)⟩,
    ⟨some 19, (.mv (.t 18)), some (16, true)⟩,
    ⟨some 20, (.mv (.t 0)), some (19, false)⟩,
    ⟨some 21, (.call 212 [(.t 20)] .bool []), some (19, false)⟩,
    ⟨some 22, (.not (.t 21)), some (19, false)⟩,
    ⟨some 23, (.pick (.t 19) (.c (.bool true)) (.t 22)), some (16, true)⟩,
    ⟨some 24, (.pick (.t 16) (.t 23) (.c (.bool false))), some (6, false)⟩,
    ⟨some 25, (.pick (.t 6) (.c (.bool true)) (.t 24)), none⟩] [25] [] t0)
    .ret))
def num_May.body : DC := num_May.bodyX num_May.t0
def num_May : FD := ⟨1, [.tmp 2], num_May.body⟩
/-- 180 bailiff/value.Calls -/
def value_Calls.tX0 (t0 : DC) : DC :=
  (.ops [
    ⟨some 2, (.mv (.t 10)), none⟩])
def value_Calls.t0 : DC := value_Calls.tX0 .skip
def value_Calls.bodyX (t0 : DC) : DC :=
  (.seq
   (.ops [
     ⟨some 1, (.box 1 (.t 0)), none⟩,
     ⟨some 2, (.mv (.c (.bool false))), none⟩])
   (.seq
  (.opsc [
    ⟨some 3, (.faddr 0 (.t 1)), none⟩,
    ⟨some 4, (.load none (.t 3)), none⟩,
    ⟨some 5, (.bini .eql (.t 4) (.c (.int .u8 7))), none⟩,
    ⟨some 6, (.mv (.t 5)), none⟩,
    ⟨some 7, (.faddr 0 (.t 1)), some (6, false)⟩,
    ⟨some 8, (.load none (.t 7)), some (6, false)⟩,
    ⟨some 9, (.bini .eql (.t 8) (.c (.int .u8 8))), some (6, false)⟩,
    ⟨some 10, (.pick (.t 6) (.c (.bool true)) (.t 9)), none⟩] [10] [] t0)
    .ret))
def value_Calls.body : DC := value_Calls.bodyX value_Calls.t0
def value_Calls : FD := ⟨1, [.tmp 2], value_Calls.body⟩
/-- 181 bailiff/value.IsObject -/
def value_IsObject.tX0 (t0 : DC) : DC :=
  (.ops [
    ⟨some 2, (.mv (.t 10)), none⟩])
def value_IsObject.t0 : DC := value_IsObject.tX0 .skip
def value_IsObject.bodyX (t0 : DC) : DC :=
  (.seq
   (.ops [
     ⟨some 1, (.box 1 (.t 0)), none⟩,
     ⟨some 2, (.mv (.c (.bool false))), none⟩])
   (.seq
  (.opsc [
    ⟨some 3, (.faddr 0 (.t 1)), none⟩,
    ⟨some 4, (.load none (.t 3)), none⟩,
    ⟨some 5, (.bini .geq (.t 4) (.c (.int .u8 6))), none⟩,
    ⟨some 6, (.mv (.t 5)), none⟩,
    ⟨some 7, (.faddr 0 (.t 1)), some (6, true)⟩,
    ⟨some 8, (.load none (.t 7)), some (6, true)⟩,
    ⟨some 9, (.bini .leq (.t 8) (.c (.int .u8 8))), some (6, true)⟩,
    ⟨some 10, (.pick (.t 6) (.t 9) (.c (.bool false))), none⟩] [10] [] t0)
    .ret))
def value_IsObject.body : DC := value_IsObject.bodyX value_IsObject.t0
def value_IsObject : FD := ⟨1, [.tmp 2], value_IsObject.body⟩
/-- 182 bailiff/value.May -/
def value_May.tX0 (t0 t1 t2 t3 t4 t5 : DC) : DC :=
  (.ops [
    ⟨some 12, (.mv (.t 11)), none⟩,
    ⟨some 13, (.faddr 2 (.t 1)), some (12, false)⟩,
    ⟨some 14, (.load none (.t 13)), some (12, false)⟩,
    ⟨some 15, (.len true (.t 14)), some (12, false)⟩,
    ⟨some 16, (.bini .gtr (.t 15) (.c (.int .i64 4096))), some (12, false)⟩,
    ⟨some 17, (.pick (.t 12) (.c (.bool true)) (.t 16)), none⟩])
def value_May.t0 : DC := value_May.tX0 .skip .skip .skip .skip .skip .skip
def value_May.tX1 (t0 t1 t2 t3 t4 t5 : DC) : DC :=
     (.cond (.t 17)
      (.seq
       (.ops [
         ⟨some 2, (.mv (.c (.bool false))), none⟩])
       .ret)
      .skip)
def value_May.t1 : DC := value_May.tX1 value_May.t0 .skip .skip .skip .skip .skip
def value_May.sX1 (t : DC) : DC := .kp [1, 17] [1] t
def value_May.tX2 (t0 t1 t2 t3 t4 t5 : DC) : DC :=
            (.cond (.t 37)
             (.seq
              (.ops [
                ⟨some 2, (.mv (.c (.bool false))), none⟩])
              .ret)
             .skip)
def value_May.t2 : DC := value_May.tX2 value_May.t0 value_May.t1 .skip .skip .skip .skip
def value_May.sX2 (t : DC) : DC := .kp [1, 3, 37] [1, 3] t
def value_May.tX3 (t0 t1 t2 t3 t4 t5 : DC) : DC :=
               (.cond (.t 48)
                (.ops [
                  ⟨some 53, (.faddr 3 (.t 3)), none⟩,
                  ⟨none, (.store 1 (.t 53) (.c (.int .i64 0))), none⟩])
                .skip)
def value_May.t3 : DC := value_May.tX3 value_May.t0 value_May.t1 value_May.t2 .skip .skip .skip
def value_May.sX3 (t : DC) : DC := .kp [1, 3, 48] [1, 3] t
def value_May.tX4 (t0 t1 t2 t3 t4 t5 : DC) : DC :=
  (.ops [
    ⟨some 2, (.mv (.t 63)), none⟩])
def value_May.t4 : DC := value_May.tX4 value_May.t0 value_May.t1 value_May.t2 value_May.t3 .skip .skip
def value_May.tX5 (t0 t1 t2 t3 t4 t5 : DC) : DC :=
      (.seq
  (.opsc [
    ⟨some 54, (.load (some 4) (.t 3)), none⟩,
    ⟨some 55, (.faddr 0 (.t 1)), none⟩,
    ⟨some 56, (.load none (.t 55)), none⟩,
    ⟨some 57, (.build [(.int .u8 0), (.float 0), (.str (bs [])), (.int .i64 0)] [((0, 1), (.t 56))]), none⟩,
    ⟨some 58, (.eqa false [0, 3, 2, 0] (.t 54) (.t 57)), none⟩,
    ⟨some 59, (.mv (.t 58)), none⟩,
    ⟨some 60, (.faddr 1 (.t 3)), some (59, true)⟩,
    ⟨some 61, (.load none (.t 60)), some (59, true)⟩,
    ⟨some 62, (.call 161 [(.t 61)] .bool []), some (59, true)⟩,
    ⟨some 63, (.pick (.t 59) (.t 62) (.c (.bool false))), none⟩] [63] [] t4)
       .ret)
def value_May.t5 : DC := value_May.tX5 value_May.t0 value_May.t1 value_May.t2 value_May.t3 value_May.t4 .skip
def value_May.sX5 (t : DC) : DC := .kp [1, 3] [1, 3] t
def value_May.bodyX (t0 t1 t2 t3 t4 t5 : DC) : DC :=
  (.seq
   (.ops [
     ⟨some 1, (.box 1 (.t 0)), none⟩,
     ⟨some 2, (.mv (.c (.bool false))), none⟩])
   (.seq
    (.seq
  (.opsc [
    ⟨some 4, (.faddr 0 (.t 1)), none⟩,
    ⟨some 5, (.load none (.t 4)), none⟩,
    ⟨some 6, (.bini .gtr (.t 5) (.c (.int .u8 8))), none⟩,
    ⟨some 7, (.mv (.t 6)), none⟩,
    ⟨some 8, (.faddr 3 (.t 1)), some (7, false)⟩,
    ⟨some 9, (.load none (.t 8)), some (7, false)⟩,
    ⟨some 10, (.bini .lss (.t 9) (.c (.int .i64 0))), some (7, false)⟩,
    ⟨some 11, (.pick (.t 7) (.c (.bool true)) (.t 10)), none⟩] [1, 11] [1] t0)
     (value_May.sX1 t1))
    (.seq
     (.ops [
       ⟨some 18, (.load (some 4) (.t 1)), none⟩,
       ⟨some 3, (.alloc 3 [(.int .u8 0), (.float 0), (.str (bs [])), (.int .i64 0)] none), none⟩,
       ⟨none, (.store 4 (.t 3) (.t 18)), none⟩])
     (.seq
      (.seq
       (.ops [
         ⟨some 19, (.faddr 0 (.t 1)), none⟩,
         ⟨some 20, (.load none (.t 19)), none⟩])
       (.block 0
        (.seq
         (.ops [
           ⟨some 22, (.bini .eql (.t 20) (.c (.int .u8 2))), none⟩,
           ⟨some 21, (.mv (.t 22)), none⟩])
         (.cond (.t 21)
          (.seq
           (.ops [
             ⟨some 23, (.faddr 1 (.t 3)), none⟩,
             ⟨none, (.store 1 (.t 23) (.c (.float 0))), none⟩])
           (.seq
            (.ops [
              ⟨some 24, (.faddr 1 (.t 1)), none⟩,
              ⟨some 25, (.load none (.t 24)), none⟩,
              ⟨some 26, (.binf .neq (.t 25) (.c (.float 4607182418800017408))), none⟩,
              ⟨some 27, (.mv (.t 26)), none⟩,
              ⟨some 28, (.faddr 1 (.t 1)), some (27, true)⟩,
              ⟨some 29, (.load none (.t 28)), some (27, true)⟩,
              ⟨some 30, (.binf .neq (.t 29) (.c (.float 0))), some (27, true)⟩,
              ⟨some 31, (.mv (.t 30)), some (27, true)⟩,
              ⟨some 32, (.faddr 1 (.t 1)), some (31, false)⟩,
              ⟨some 33, (.load none (.t 32)), some (31, false)⟩,
              ⟨some 34, (.call 161 [(.t 33)] .bool []), some (31, false)⟩,
              ⟨some 35, (.not (.t 34)), some (31, false)⟩,
              ⟨some 36, (.pick (.t 31) (.c (.bool true)) (.t 35)), some (27, true)⟩,
              ⟨some 37, (.pick (.t 27) (.t 36) (.c (.bool false))), none⟩])
            (value_May.sX2 t2)))
          (.seq
           (.ops [
             ⟨some 39, (.bini .eql (.t 20) (.c (.int .u8 3))), none⟩,
             ⟨some 38, (.mv (.t 39)), none⟩])
           (.cond (.t 38)
            (.seq
             (.ops [
               ⟨some 40, (.faddr 1 (.t 3)), none⟩,
               ⟨none, (.store 1 (.t 40) (.c (.float 0))), none⟩])
             (.seq
              (.ops [
                ⟨some 41, (.faddr 1 (.t 1)), none⟩,
                ⟨some 42, (.load none (.t 41)), none⟩,
                ⟨some 43, (.call 161 [(.t 42)] .bool []), none⟩,
                ⟨some 44, (.not (.t 43)), none⟩])
              (.cond (.t 44)
               (.seq
                (.ops [
                  ⟨some 2, (.mv (.c (.bool false))), none⟩])
                .ret)
               .skip)))
            (.seq
             (.ops [
               ⟨some 46, (.bini .eql (.t 20) (.c (.int .u8 4))), none⟩,
               ⟨some 45, (.mv (.t 46)), none⟩])
             (.cond (.t 45)
              (.ops [
                ⟨some 47, (.faddr 2 (.t 3)), none⟩,
                ⟨none, (.store 1 (.t 47) (.c (.str (bs [])))), none⟩])
              (.seq
               (.seq
                (.ops [
                  ⟨some 49, (.bini .eql (.t 20) (.c (.int .u8 5))), none⟩,
                  ⟨some 48, (.mv (.t 49)), none⟩])
                (.cond (.t 48)
                 .skip
                 (.seq
                  (.ops [
                    ⟨some 50, (.bini .eql (.t 20) (.c (.int .u8 6))), none⟩,
                    ⟨some 48, (.mv (.t 50)), none⟩])
                  (.cond (.t 48)
                   .skip
                   (.seq
                    (.ops [
                      ⟨some 51, (.bini .eql (.t 20) (.c (.int .u8 7))), none⟩,
                      ⟨some 48, (.mv (.t 51)), none⟩])
                    (.cond (.t 48)
                     .skip
                     (.ops [
                       ⟨some 52, (.bini .eql (.t 20) (.c (.int .u8 8))), none⟩,
                       ⟨some 48, (.mv (.t 52)), none⟩])))))))
               (value_May.sX3 t3))))))))))
      (value_May.sX5 t5)))))
def value_May.body : DC := value_May.bodyX value_May.t0 value_May.t1 value_May.t2 value_May.t3 value_May.t4 value_May.t5
def value_May : FD := ⟨1, [.tmp 2], value_May.body⟩
/-- 184 bailiff/value.Same -/
def value_Same.tX0 (t0 t1 : DC) : DC :=
  (.ops [
    ⟨some 13, (.mv (.t 12)), none⟩,
    ⟨some 14, (.faddr 1 (.t 2)), some (13, true)⟩,
    ⟨some 15, (.load none (.t 14)), some (13, true)⟩,
    ⟨some 16, (.faddr 1 (.t 2)), some (13, true)⟩,
    ⟨some 17, (.load none (.t 16)), some (13, true)⟩,
    ⟨some 18, (.binf .neq (.t 15) (.t 17)), some (13, true)⟩,
    ⟨some 19, (.pick (.t 13) (.t 18) (.c (.bool false))), none⟩])
def value_Same.t0 : DC := value_Same.tX0 .skip .skip
def value_Same.tX1 (t0 t1 : DC) : DC :=
     (.cond (.t 19)
      (.seq
       (.ops [
         ⟨some 20, (.faddr 1 (.t 3)), none⟩,
         ⟨some 21, (.load none (.t 20)), none⟩,
         ⟨some 22, (.faddr 1 (.t 3)), none⟩,
         ⟨some 23, (.load none (.t 22)), none⟩,
         ⟨some 24, (.binf .neq (.t 21) (.t 23)), none⟩,
         ⟨some 4, (.mv (.t 24)), none⟩])
       .ret)
      .skip)
def value_Same.t1 : DC := value_Same.tX1 value_Same.t0 .skip
def value_Same.sX1 (t : DC) : DC := .kp [2, 3, 19] [2, 3] t
def value_Same.bodyX (t0 t1 : DC) : DC :=
  (.seq
   (.ops [
     ⟨some 2, (.box 2 (.t 0)), none⟩,
     ⟨some 3, (.box 3 (.t 1)), none⟩,
     ⟨some 4, (.mv (.c (.bool false))), none⟩])
   (.seq
    (.seq
  (.opsc [
    ⟨some 5, (.faddr 0 (.t 2)), none⟩,
    ⟨some 6, (.load none (.t 5)), none⟩,
    ⟨some 7, (.bini .eql (.t 6) (.c (.int .u8 3))), none⟩,
    ⟨some 8, (.mv (.t 7)), none⟩,
    ⟨some 9, (.faddr 0 (.t 3)), some (8, true)⟩,
    ⟨some 10, (.load none (.t 9)), some (8, true)⟩,
    ⟨some 11, (.bini .eql (.t 10) (.c (.int .u8 3))), some (8, true)⟩,
    ⟨some 12, (.pick (.t 8) (.t 11) (.c (.bool false))), none⟩] [2, 3, 12] [2, 3] t0)
     (value_Same.sX1 t1))
    (.seq
     (.ops [
       ⟨some 25, (.load (some 4) (.t 2)), none⟩,
       ⟨some 26, (.load (some 4) (.t 3)), none⟩,
       ⟨some 27, (.call 186 [(.t 25), (.t 26)] .bool []), none⟩,
       ⟨some 4, (.mv (.t 27)), none⟩])
     .ret)))
def value_Same.body : DC := value_Same.bodyX value_Same.t0 value_Same.t1
def value_Same : FD := ⟨2, [.tmp 4], value_Same.body⟩
/-- 186 bailiff/value.Strict -/
def value_Strict.tX0 (t0 t1 t2 t3 : DC) : DC :=
  (.ops [
    ⟨some 5, (.mv (.t 11)), none⟩])
def value_Strict.t0 : DC := value_Strict.tX0 .skip .skip .skip .skip
def value_Strict.tX1 (t0 t1 t2 t3 : DC) : DC :=
      (.cond (.t 5)
       (.seq
        (.ops [
          ⟨some 12, (.faddr 3 (.t 2)), none⟩,
          ⟨some 13, (.load none (.t 12)), none⟩,
          ⟨some 14, (.faddr 3 (.t 3)), none⟩,
          ⟨some 15, (.load none (.t 14)), none⟩,
          ⟨some 16, (.bini .eql (.t 13) (.t 15)), none⟩,
          ⟨some 4, (.mv (.t 16)), none⟩])
        .ret)
       (.seq
        (.ops [
          ⟨some 18, (.faddr 0 (.t 2)), none⟩,
          ⟨some 19, (.load none (.t 18)), none⟩,
          ⟨some 20, (.faddr 0 (.t 3)), none⟩,
          ⟨some 21, (.load none (.t 20)), none⟩,
          ⟨some 22, (.bini .neq (.t 19) (.t 21)), none⟩,
          ⟨some 17, (.mv (.t 22)), none⟩])
        (.cond (.t 17)
         (.seq
          (.ops [
            ⟨some 4, (.mv (.c (.bool false))), none⟩])
          .ret)
         .skip)))
def value_Strict.t1 : DC := value_Strict.tX1 value_Strict.t0 .skip .skip .skip
def value_Strict.sX1 (t : DC) : DC := .kp [2, 3, 5] [2, 3] t
def value_Strict.tX2 (t0 t1 t2 t3 : DC) : DC :=
          (.cond (.t 28)
           (.seq
            (.ops [
              ⟨some 31, (.faddr 1 (.t 2)), none⟩,
              ⟨some 32, (.load none (.t 31)), none⟩,
              ⟨some 33, (.faddr 1 (.t 3)), none⟩,
              ⟨some 34, (.load none (.t 33)), none⟩,
              ⟨some 35, (.binf .eql (.t 32) (.t 34)), none⟩,
              ⟨some 4, (.mv (.t 35)), none⟩])
            .ret)
           (.seq
            (.ops [
              ⟨some 37, (.bini .eql (.t 24) (.c (.int .u8 4))), none⟩,
              ⟨some 36, (.mv (.t 37)), none⟩])
            (.cond (.t 36)
             (.seq
              (.ops [
                ⟨some 38, (.faddr 2 (.t 2)), none⟩,
                ⟨some 39, (.load none (.t 38)), none⟩,
                ⟨some 40, (.faddr 2 (.t 3)), none⟩,
                ⟨some 41, (.load none (.t 40)), none⟩,
                ⟨some 42, (.bins .eql (.t 39) (.t 41)), none⟩,
                ⟨some 4, (.mv (.t 42)), none⟩])
              .ret)
             (.seq
              (.ops [
                ⟨some 44, (.bini .eql (.t 24) (.c (.int .u8 5))), none⟩,
                ⟨some 43, (.mv (.t 44)), none⟩])
              (.cond (.t 43)
               (.seq
                (.ops [
                  ⟨some 45, (.faddr 3 (.t 2)), none⟩,
                  ⟨some 46, (.load none (.t 45)), none⟩,
                  ⟨some 47, (.faddr 3 (.t 3)), none⟩,
                  ⟨some 48, (.load none (.t 47)), none⟩,
                  ⟨some 49, (.bini .eql (.t 46) (.t 48)), none⟩,
                  ⟨some 4, (.mv (.t 49)), none⟩])
                .ret)
               .skip)))))
def value_Strict.t2 : DC := value_Strict.tX2 value_Strict.t0 value_Strict.t1 .skip .skip
def value_Strict.sX2 (t : DC) : DC := .kp [2, 3, 24, 28] [2, 3] t
def value_Strict.tX3 (t0 t1 t2 t3 : DC) : DC :=
        (.cond (.t 25)
         (.seq
          (.ops [
            ⟨some 4, (.mv (.c (.bool true))), none⟩])
          .ret)
         (.seq
          (.seq
           (.ops [
             ⟨some 29, (.bini .eql (.t 24) (.c (.int .u8 2))), none⟩,
             ⟨some 28, (.mv (.t 29)), none⟩])
           (.cond (.t 28)
            .skip
            (.ops [
              ⟨some 30, (.bini .eql (.t 24) (.c (.int .u8 3))), none⟩,
              ⟨some 28, (.mv (.t 30)), none⟩])))
          (value_Strict.sX2 t2)))
def value_Strict.t3 : DC := value_Strict.tX3 value_Strict.t0 value_Strict.t1 value_Strict.t2 .skip
def value_Strict.sX3 (t : DC) : DC := .kp [2, 3, 24, 25] [2, 3] t
def value_Strict.bodyX (t0 t1 t2 t3 : DC) : DC :=
  (.seq
   (.ops [
     ⟨some 2, (.box 2 (.t 0)), none⟩,
     ⟨some 3, (.box 3 (.t 1)), none⟩,
     ⟨some 4, (.mv (.c (.bool false))), none⟩])
   (.seq
    (.block 0
     (.seq
  (.opsc [
    ⟨some 6, (.load (some 4) (.t 2)), none⟩,
    ⟨some 7, (.call 181 [(.t 6)] .bool []), none⟩,
    ⟨some 8, (.mv (.t 7)), none⟩,
    ⟨some 9, (.load (some 4) (.t 3)), some (8, true)⟩,
    ⟨some 10, (.call 181 [(.t 9)] .bool []), some (8, true)⟩,
    ⟨some 11, (.pick (.t 8) (.t 10) (.c (.bool false))), none⟩] [2, 3, 11] [2, 3] t0)
      (value_Strict.sX1 t1)))
    (.seq
     (.seq
      (.ops [
        ⟨some 23, (.faddr 0 (.t 2)), none⟩,
        ⟨some 24, (.load none (.t 23)), none⟩])
      (.block 1
       (.seq
        (.seq
         (.ops [
           ⟨some 26, (.bini .eql (.t 24) (.c (.int .u8 0))), none⟩,
           ⟨some 25, (.mv (.t 26)), none⟩])
         (.cond (.t 25)
          .skip
          (.ops [
            ⟨some 27, (.bini .eql (.t 24) (.c (.int .u8 1))), none⟩,
            ⟨some 25, (.mv (.t 27)), none⟩])))
        (value_Strict.sX3 t3))))
     (.seq
      (.ops [
        ⟨some 4, (.mv (.c (.bool false))), none⟩])
      .ret))))
def value_Strict.body : DC := value_Strict.bodyX value_Strict.t0 value_Strict.t1 value_Strict.t2 value_Strict.t3
def value_Strict : FD := ⟨2, [.tmp 4], value_Strict.body⟩
/-- 207 math.Abs -/
def math_Abs.bodyX : DC :=
  (.seq
   (.ops [
     ⟨some 2, (.mv (.c (.float 0))), none⟩])
   (.seq
    (.ops [
      ⟨some 3, (.mv (.t 0)), none⟩,
      ⟨some 4, (.call 209 [(.t 3)] (.int .u64) []), none⟩,
      ⟨some 5, (.bini .andNot (.t 4) (.c (.int .u64 9223372036854775808))), none⟩,
      ⟨some 6, (.call 210 [(.t 5)] .float []), none⟩,
      ⟨some 2, (.mv (.t 6)), none⟩])
    .ret))
def math_Abs.body : DC := math_Abs.bodyX
def math_Abs : FD := ⟨1, [.tmp 2], math_Abs.body⟩
/-- 208 math.Copysign -/
def math_Copysign.bodyX : DC :=
  (.seq
   (.ops [
     ⟨some 4, (.mv (.c (.float 0))), none⟩])
   (.seq
    (.ops [
      ⟨some 5, (.mv (.t 0)), none⟩,
      ⟨some 6, (.call 209 [(.t 5)] (.int .u64) []), none⟩,
      ⟨some 7, (.bini .andNot (.t 6) (.c (.int .u64 9223372036854775808))), none⟩,
      ⟨some 8, (.mv (.t 1)), none⟩,
      ⟨some 9, (.call 209 [(.t 8)] (.int .u64) []), none⟩,
      ⟨some 10, (.bini .and (.t 9) (.c (.int .u64 9223372036854775808))), none⟩,
      ⟨some 11, (.bini .or (.t 7) (.t 10)), none⟩,
      ⟨some 12, (.call 210 [(.t 11)] .float []), none⟩,
      ⟨some 4, (.mv (.t 12)), none⟩])
    .ret))
def math_Copysign.body : DC := math_Copysign.bodyX
def math_Copysign : FD := ⟨2, [.tmp 4], math_Copysign.body⟩
/-- 212 math.Signbit -/
def math_Signbit.bodyX : DC :=
  (.seq
   (.ops [
     ⟨some 2, (.mv (.c (.bool false))), none⟩])
   (.seq
    (.ops [
      ⟨some 3, (.mv (.t 0)), none⟩,
      ⟨some 4, (.call 209 [(.t 3)] (.int .u64) []), none⟩,
      ⟨some 5, (.conv .i64 (.t 4)), none⟩,
      ⟨some 6, (.bini .lss (.t 5) (.c (.int .i64 0))), none⟩,
      ⟨some 2, (.mv (.t 6)), none⟩])
    .ret))
def math_Signbit.body : DC := math_Signbit.bodyX
def math_Signbit : FD := ⟨1, [.tmp 2], math_Signbit.body⟩
/-- 213 math.Trunc -/
def math_Trunc.bodyX : DC :=
  (.seq
   (.ops [
     ⟨some 2, (.mv (.c (.float 0))), none⟩])
   (.seq
    (.cond (.c (.bool true))
     (.seq
      (.ops [
        ⟨some 3, (.mv (.t 0)), none⟩,
        ⟨some 4, (.call 214 [(.t 3)] .float []), none⟩,
        ⟨some 2, (.mv (.t 4)), none⟩])
      .ret)
     .skip)
    (.seq
     (.ops [
       ⟨some 5, (.mv (.t 0)), none⟩,
       ⟨some 6, (.call 215 [(.t 5)] .float []), none⟩,
       ⟨some 2, (.mv (.t 6)), none⟩])
     .ret)))
def math_Trunc.body : DC := math_Trunc.bodyX
def math_Trunc : FD := ⟨1, [.tmp 2], math_Trunc.body⟩
/-- 215 math.trunc -/
def math_trunc.tX0 (t0 : DC) : DC :=
       (.seq
        (.ops [
          ⟨some 24, (.mv (.t 3)), none⟩,
          ⟨some 25, (.call 210 [(.t 24)] .float []), none⟩,
          ⟨some 2, (.mv (.t 25)), none⟩])
        .ret)
def math_trunc.t0 : DC := math_trunc.tX0 .skip
def math_trunc.sX0 (t : DC) : DC := .kp [3] [] t
def math_trunc.bodyX (t0 : DC) : DC :=
  (.seq
   (.ops [
     ⟨some 2, (.mv (.c (.float 0))), none⟩])
   (.seq
    (.seq
     (.ops [
       ⟨some 5, (.mv (.t 0)), none⟩,
       ⟨some 6, (.call 207 [(.t 5)] .float []), none⟩,
       ⟨some 7, (.binf .lss (.t 6) (.c (.float 4607182418800017408))), none⟩])
     (.cond (.t 7)
      (.seq
       (.ops [
         ⟨some 8, (.mv (.t 0)), none⟩,
         ⟨some 9, (.call 208 [(.c (.float 0)), (.t 8)] .float []), none⟩,
         ⟨some 2, (.mv (.t 9)), none⟩])
       .ret)
      .skip))
    (.seq
     (.ops [
       ⟨some 10, (.mv (.t 0)), none⟩,
       ⟨some 11, (.call 209 [(.t 10)] (.int .u64) []), none⟩,
       ⟨some 3, (.mv (.t 11)), none⟩])
     (.seq
      (.ops [
        ⟨some 12, (.mv (.t 3)), none⟩,
        ⟨some 13, (.bini .shr (.t 12) (.c (.int .u64 52))), none⟩,
        ⟨some 14, (.bini .and (.t 13) (.c (.int .u64 2047))), none⟩,
        ⟨some 15, (.bini .sub (.t 14) (.c (.int .u64 1023))), none⟩,
        ⟨some 4, (.mv (.t 15)), none⟩])
      (.seq
       (.seq
        (.ops [
          ⟨some 16, (.mv (.t 4)), none⟩,
          ⟨some 17, (.bini .lss (.t 16) (.c (.int .u64 52))), none⟩])
        (.cond (.t 17)
         (.ops [
           ⟨some 18, (.mv (.t 3)), none⟩,
           ⟨some 19, (.mv (.t 4)), none⟩,
           ⟨some 20, (.bini .sub (.c (.int .u64 52)) (.t 19)), none⟩,
           ⟨some 21, (.bini .shl (.c (.int .u64 1)) (.t 20)), none⟩,
           ⟨some 22, (.bini .sub (.t 21) (.c (.int .u64 1))), none⟩,
           ⟨some 23, (.bini .andNot (.t 18) (.t 22)), none⟩,
           ⟨some 3, (.mv (.t 23)), none⟩])
         .skip))
       (math_trunc.sX0 t0))))))
def math_trunc.body : DC := math_trunc.bodyX math_trunc.t0
def math_trunc : FD := ⟨1, [.tmp 2], math_trunc.body⟩
end C
end Bz
