/- The resolved code of the functions, printed by gen.py. -/
import Derived.Test.YtjlgkjmbndmkjaaDev2c
set_option linter.all false
set_option maxRecDepth 100000
namespace Bz
open Go
def bs (l : List UInt8) : ByteArray := ⟨l.toArray⟩
namespace C
/-- 25 bailiff/bailifflaw24.RealmNames -/
def bailifflaw24_RealmNames.tX0 (t0 t1 t2 t3 t4 t5 t6 t7 t8 t9 t10 t11 t12 t13 t14 t15 t16 : DC) : DC :=
  (.ops [
    ⟨some 11, (.mv (.t 62)), none⟩])
def bailifflaw24_RealmNames.t0 : DC := bailifflaw24_RealmNames.tX0 .skip .skip .skip .skip .skip .skip .skip .skip .skip .skip .skip .skip .skip .skip .skip .skip .skip
def bailifflaw24_RealmNames.tX1 (t0 t1 t2 t3 t4 t5 t6 t7 t8 t9 t10 t11 t12 t13 t14 t15 t16 : DC) : DC :=
  (.opsc [
    ⟨some 59, (.mv (.t 58)), none⟩,
    ⟨some 60, (.mv (.t 10)), some (59, true)⟩,
    ⟨some 61, (.not (.t 60)), some (59, true)⟩,
    ⟨some 62, (.pick (.t 59) (.t 61) (.c (.bool false))), none⟩] [62] [] t0)
def bailifflaw24_RealmNames.t1 : DC := bailifflaw24_RealmNames.tX1 bailifflaw24_RealmNames.t0 .skip .skip .skip .skip .skip .skip .skip .skip .skip .skip .skip .skip .skip .skip .skip .skip
def bailifflaw24_RealmNames.tX2 (t0 t1 t2 t3 t4 t5 t6 t7 t8 t9 t10 t11 t12 t13 t14 t15 t16 : DC) : DC :=
  (.opsc [
    ⟨some 55, (.mv (.t 54)), none⟩,
    ⟨some 56, (.mv (.t 8)), some (55, true)⟩,
    ⟨some 57, (.not (.t 56)), some (55, true)⟩,
    ⟨some 58, (.pick (.t 55) (.t 57) (.c (.bool false))), none⟩] [10, 58] [] t1)
def bailifflaw24_RealmNames.t2 : DC := bailifflaw24_RealmNames.tX2 bailifflaw24_RealmNames.t0 bailifflaw24_RealmNames.t1 .skip .skip .skip .skip .skip .skip .skip .skip .skip .skip .skip .skip .skip .skip .skip
def bailifflaw24_RealmNames.tX3 (t0 t1 t2 t3 t4 t5 t6 t7 t8 t9 t10 t11 t12 t13 t14 t15 t16 : DC) : DC :=
  (.opsc [
    ⟨some 51, (.mv (.t 50)), none⟩,
    ⟨some 52, (.mv (.t 5)), some (51, true)⟩,
    ⟨some 53, (.bins .eql (.t 52) (.c (.str (bs [79, 98, 106, 101, 99, 116, 46, 97, 115, 115, 105, 103, 110])))), some (51, true)⟩,
    ⟨some 54, (.pick (.t 51) (.t 53) (.c (.bool false))), none⟩] [8, 10, 54] [] t2)
def bailifflaw24_RealmNames.t3 : DC := bailifflaw24_RealmNames.tX3 bailifflaw24_RealmNames.t0 bailifflaw24_RealmNames.t1 bailifflaw24_RealmNames.t2 .skip .skip .skip .skip .skip .skip .skip .skip .skip .skip .skip .skip .skip .skip
def bailifflaw24_RealmNames.tX4 (t0 t1 t2 t3 t4 t5 t6 t7 t8 t9 t10 t11 t12 t13 t14 t15 t16 : DC) : DC :=
  (.opsc [
    ⟨some 48, (.mv (.t 47)), none⟩,
    ⟨some 49, (.mv (.t 6)), some (48, true)⟩,
    ⟨some 50, (.pick (.t 48) (.t 49) (.c (.bool false))), none⟩] [5, 8, 10, 50] [] t3)
def bailifflaw24_RealmNames.t4 : DC := bailifflaw24_RealmNames.tX4 bailifflaw24_RealmNames.t0 bailifflaw24_RealmNames.t1 bailifflaw24_RealmNames.t2 bailifflaw24_RealmNames.t3 .skip .skip .skip .skip .skip .skip .skip .skip .skip .skip .skip .skip .skip
def bailifflaw24_RealmNames.tX5 (t0 t1 t2 t3 t4 t5 t6 t7 t8 t9 t10 t11 t12 t13 t14 t15 t16 : DC) : DC :=
  (.opsc [
    ⟨some 44, (.mv (.t 43)), none⟩,
    ⟨some 45, (.mv (.t 3)), some (44, true)⟩,
    ⟨some 46, (.bins .eql (.t 45) (.c (.str (bs [112, 114, 105, 110, 116])))), some (44, true)⟩,
    ⟨some 47, (.pick (.t 44) (.t 46) (.c (.bool false))), none⟩] [5, 6, 8, 10, 47] [] t4)
def bailifflaw24_RealmNames.t5 : DC := bailifflaw24_RealmNames.tX5 bailifflaw24_RealmNames.t0 bailifflaw24_RealmNames.t1 bailifflaw24_RealmNames.t2 bailifflaw24_RealmNames.t3 bailifflaw24_RealmNames.t4 .skip .skip .skip .skip .skip .skip .skip .skip .skip .skip .skip .skip
def bailifflaw24_RealmNames.tX6 (t0 t1 t2 t3 t4 t5 t6 t7 t8 t9 t10 t11 t12 t13 t14 t15 t16 : DC) : DC :=
  (.opsc [
    ⟨some 41, (.mv (.t 40)), none⟩,
    ⟨some 42, (.mv (.t 4)), some (41, true)⟩,
    ⟨some 43, (.pick (.t 41) (.t 42) (.c (.bool false))), none⟩] [3, 5, 6, 8, 10, 43] [] t5)
def bailifflaw24_RealmNames.t6 : DC := bailifflaw24_RealmNames.tX6 bailifflaw24_RealmNames.t0 bailifflaw24_RealmNames.t1 bailifflaw24_RealmNames.t2 bailifflaw24_RealmNames.t3 bailifflaw24_RealmNames.t4 bailifflaw24_RealmNames.t5 .skip .skip .skip .skip .skip .skip .skip .skip .skip .skip .skip
def bailifflaw24_RealmNames.tX7 (t0 t1 t2 t3 t4 t5 t6 t7 t8 t9 t10 t11 t12 t13 t14 t15 t16 : DC) : DC :=
  (.ops [
    ⟨some 0, (.mv (.t 116)), none⟩])
def bailifflaw24_RealmNames.t7 : DC := bailifflaw24_RealmNames.tX7 bailifflaw24_RealmNames.t0 bailifflaw24_RealmNames.t1 bailifflaw24_RealmNames.t2 bailifflaw24_RealmNames.t3 bailifflaw24_RealmNames.t4 bailifflaw24_RealmNames.t5 bailifflaw24_RealmNames.t6 .skip .skip .skip .skip .skip .skip .skip .skip .skip .skip
def bailifflaw24_RealmNames.tX8 (t0 t1 t2 t3 t4 t5 t6 t7 t8 t9 t10 t11 t12 t13 t14 t15 t16 : DC) : DC :=
  (.opsc [
    ⟨some 112, (.mv (.t 111)), none⟩,
    ⟨some 113, (.faddr 14 (.t 13)), some (112, true)⟩,
    ⟨some 114, (.load none (.t 113)), some (112, true)⟩,
    ⟨some 115, (.not (.t 114)), some (112, true)⟩,
    ⟨some 116, (.pick (.t 112) (.t 115) (.c (.bool false))), none⟩] [116] [] t7)
def bailifflaw24_RealmNames.t8 : DC := bailifflaw24_RealmNames.tX8 bailifflaw24_RealmNames.t0 bailifflaw24_RealmNames.t1 bailifflaw24_RealmNames.t2 bailifflaw24_RealmNames.t3 bailifflaw24_RealmNames.t4 bailifflaw24_RealmNames.t5 bailifflaw24_RealmNames.t6 bailifflaw24_RealmNames.t7 .skip .skip .skip .skip .skip .skip .skip .skip .skip
def bailifflaw24_RealmNames.tX9 (t0 t1 t2 t3 t4 t5 t6 t7 t8 t9 t10 t11 t12 t13 t14 t15 t16 : DC) : DC :=
  (.opsc [
    ⟨some 108, (.mv (.t 107)), none⟩,
    ⟨some 109, (.faddr 15 (.t 13)), some (108, true)⟩,
    ⟨some 110, (.load none (.t 109)), some (108, true)⟩,
    ⟨some 111, (.pick (.t 108) (.t 110) (.c (.bool false))), none⟩] [13, 111] [13] t8)
def bailifflaw24_RealmNames.t9 : DC := bailifflaw24_RealmNames.tX9 bailifflaw24_RealmNames.t0 bailifflaw24_RealmNames.t1 bailifflaw24_RealmNames.t2 bailifflaw24_RealmNames.t3 bailifflaw24_RealmNames.t4 bailifflaw24_RealmNames.t5 bailifflaw24_RealmNames.t6 bailifflaw24_RealmNames.t7 bailifflaw24_RealmNames.t8 .skip .skip .skip .skip .skip .skip .skip .skip
def bailifflaw24_RealmNames.tX10 (t0 t1 t2 t3 t4 t5 t6 t7 t8 t9 t10 t11 t12 t13 t14 t15 t16 : DC) : DC :=
  (.opsc [
    ⟨some 104, (.mv (.t 103)), none⟩,
    ⟨some 105, (.faddr 13 (.t 13)), some (104, true)⟩,
    ⟨some 106, (.load none (.t 105)), some (104, true)⟩,
    ⟨some 107, (.pick (.t 104) (.t 106) (.c (.bool false))), none⟩] [13, 107] [13] t9)
def bailifflaw24_RealmNames.t10 : DC := bailifflaw24_RealmNames.tX10 bailifflaw24_RealmNames.t0 bailifflaw24_RealmNames.t1 bailifflaw24_RealmNames.t2 bailifflaw24_RealmNames.t3 bailifflaw24_RealmNames.t4 bailifflaw24_RealmNames.t5 bailifflaw24_RealmNames.t6 bailifflaw24_RealmNames.t7 bailifflaw24_RealmNames.t8 bailifflaw24_RealmNames.t9 .skip .skip .skip .skip .skip .skip .skip
def bailifflaw24_RealmNames.tX11 (t0 t1 t2 t3 t4 t5 t6 t7 t8 t9 t10 t11 t12 t13 t14 t15 t16 : DC) : DC :=
  (.opsc [
    ⟨some 98, (.mv (.t 97)), none⟩,
    ⟨some 99, (.faddr 1 (.t 13)), some (98, true)⟩,
    ⟨some 100, (.faddr 3 (.t 99)), some (98, true)⟩,
    ⟨some 101, (.load none (.t 100)), some (98, true)⟩,
    ⟨some 102, (.bini .eql (.t 101) (.c (.int .i64 36))), some (98, true)⟩,
    ⟨some 103, (.pick (.t 98) (.t 102) (.c (.bool false))), none⟩] [13, 103] [13] t10)
def bailifflaw24_RealmNames.t11 : DC := bailifflaw24_RealmNames.tX11 bailifflaw24_RealmNames.t0 bailifflaw24_RealmNames.t1 bailifflaw24_RealmNames.t2 bailifflaw24_RealmNames.t3 bailifflaw24_RealmNames.t4 bailifflaw24_RealmNames.t5 bailifflaw24_RealmNames.t6 bailifflaw24_RealmNames.t7 bailifflaw24_RealmNames.t8 bailifflaw24_RealmNames.t9 bailifflaw24_RealmNames.t10 .skip .skip .skip .skip .skip .skip
def bailifflaw24_RealmNames.tX12 (t0 t1 t2 t3 t4 t5 t6 t7 t8 t9 t10 t11 t12 t13 t14 t15 t16 : DC) : DC :=
  (.opsc [
    ⟨some 92, (.mv (.t 91)), none⟩,
    ⟨some 93, (.faddr 1 (.t 13)), some (92, true)⟩,
    ⟨some 94, (.faddr 0 (.t 93)), some (92, true)⟩,
    ⟨some 95, (.load none (.t 94)), some (92, true)⟩,
    ⟨some 96, (.bini .eql (.t 95) (.c (.int .u8 7))), some (92, true)⟩,
    ⟨some 97, (.pick (.t 92) (.t 96) (.c (.bool false))), none⟩] [13, 97] [13] t11)
def bailifflaw24_RealmNames.t12 : DC := bailifflaw24_RealmNames.tX12 bailifflaw24_RealmNames.t0 bailifflaw24_RealmNames.t1 bailifflaw24_RealmNames.t2 bailifflaw24_RealmNames.t3 bailifflaw24_RealmNames.t4 bailifflaw24_RealmNames.t5 bailifflaw24_RealmNames.t6 bailifflaw24_RealmNames.t7 bailifflaw24_RealmNames.t8 bailifflaw24_RealmNames.t9 bailifflaw24_RealmNames.t10 bailifflaw24_RealmNames.t11 .skip .skip .skip .skip .skip
def bailifflaw24_RealmNames.tX13 (t0 t1 t2 t3 t4 t5 t6 t7 t8 t9 t10 t11 t12 t13 t14 t15 t16 : DC) : DC :=
  (.opsc [
    ⟨some 89, (.mv (.t 88)), none⟩,
    ⟨some 90, (.mv (.t 14)), some (89, true)⟩,
    ⟨some 91, (.pick (.t 89) (.t 90) (.c (.bool false))), none⟩] [13, 91] [13] t12)
def bailifflaw24_RealmNames.t13 : DC := bailifflaw24_RealmNames.tX13 bailifflaw24_RealmNames.t0 bailifflaw24_RealmNames.t1 bailifflaw24_RealmNames.t2 bailifflaw24_RealmNames.t3 bailifflaw24_RealmNames.t4 bailifflaw24_RealmNames.t5 bailifflaw24_RealmNames.t6 bailifflaw24_RealmNames.t7 bailifflaw24_RealmNames.t8 bailifflaw24_RealmNames.t9 bailifflaw24_RealmNames.t10 bailifflaw24_RealmNames.t11 bailifflaw24_RealmNames.t12 .skip .skip .skip .skip
def bailifflaw24_RealmNames.tX14 (t0 t1 t2 t3 t4 t5 t6 t7 t8 t9 t10 t11 t12 t13 t14 t15 t16 : DC) : DC :=
  (.opsc [
    ⟨some 85, (.mv (.t 84)), none⟩,
    ⟨some 86, (.mv (.t 15)), some (85, true)⟩,
    ⟨some 87, (.bini .eql (.t 86) (.c (.int .i64 0))), some (85, true)⟩,
    ⟨some 88, (.pick (.t 85) (.t 87) (.c (.bool false))), none⟩] [13, 14, 88] [13] t13)
def bailifflaw24_RealmNames.t14 : DC := bailifflaw24_RealmNames.tX14 bailifflaw24_RealmNames.t0 bailifflaw24_RealmNames.t1 bailifflaw24_RealmNames.t2 bailifflaw24_RealmNames.t3 bailifflaw24_RealmNames.t4 bailifflaw24_RealmNames.t5 bailifflaw24_RealmNames.t6 bailifflaw24_RealmNames.t7 bailifflaw24_RealmNames.t8 bailifflaw24_RealmNames.t9 bailifflaw24_RealmNames.t10 bailifflaw24_RealmNames.t11 bailifflaw24_RealmNames.t12 bailifflaw24_RealmNames.t13 .skip .skip .skip
def bailifflaw24_RealmNames.tX15 (t0 t1 t2 t3 t4 t5 t6 t7 t8 t9 t10 t11 t12 t13 t14 t15 t16 : DC) : DC :=
  (.opsc [
    ⟨some 82, (.mv (.t 81)), none⟩,
    ⟨some 83, (.mv (.t 11)), some (82, true)⟩,
    ⟨some 84, (.pick (.t 82) (.t 83) (.c (.bool false))), none⟩] [13, 14, 15, 84] [13] t14)
def bailifflaw24_RealmNames.t15 : DC := bailifflaw24_RealmNames.tX15 bailifflaw24_RealmNames.t0 bailifflaw24_RealmNames.t1 bailifflaw24_RealmNames.t2 bailifflaw24_RealmNames.t3 bailifflaw24_RealmNames.t4 bailifflaw24_RealmNames.t5 bailifflaw24_RealmNames.t6 bailifflaw24_RealmNames.t7 bailifflaw24_RealmNames.t8 bailifflaw24_RealmNames.t9 bailifflaw24_RealmNames.t10 bailifflaw24_RealmNames.t11 bailifflaw24_RealmNames.t12 bailifflaw24_RealmNames.t13 bailifflaw24_RealmNames.t14 .skip .skip
def bailifflaw24_RealmNames.tX16 (t0 t1 t2 t3 t4 t5 t6 t7 t8 t9 t10 t11 t12 t13 t14 t15 t16 : DC) : DC :=
         (.seq
          (.ops [
            ⟨some 63, (.call 164 [] (.heap false) []), none⟩,
            ⟨some 12, (.alloc 12 [(.nsl .obj)] none), none⟩,
            ⟨none, (.store 1 (.t 12) (.t 63)), none⟩])
          (.seq
           (.seq
            (.ops [
              ⟨some 64, (.faddr 0 (.t 12)), none⟩,
              ⟨some 65, (.load none (.t 64)), none⟩,
              ⟨some 66, (.len false (.t 65)), none⟩,
              ⟨some 67, (.bini .neq (.t 66) (.c (.int .i64 72))), none⟩])
            (.cond (.t 67)
             (.seq
              (.ops [
                ⟨some 0, (.mv (.c (.bool false))), none⟩])
              .ret)
             .skip))
           (.seq
            (.draw [
              ⟨some 69, (.faddr 0 (.t 12)), none⟩,
              ⟨some 70, (.load none (.t 69)), none⟩,
              ⟨some 71, (.iaddr false 0 18 (.t 70) (.c (.int .i64 11))), none⟩,
              ⟨some 72, (.faddr 6 (.t 71)), none⟩,
              ⟨some 73, (.load none (.t 72)), none⟩,
              ⟨some 74, (.call 160 [(.c (.str (bs [107, 101, 121, 115])))] .key []), none⟩,
              ⟨some 75, (.call 176 [(.t 73), (.t 74)] (.p3 .dsc .bool (.int .i64)) []), none⟩,
              ⟨some 68, (.mv (.t 75)), none⟩,
              ⟨some 76, (.ext (.t 68) 0), none⟩,
              ⟨some 77, (.ext (.t 68) 1), none⟩,
              ⟨some 78, (.ext (.t 68) 2), none⟩,
              ⟨some 13, (.alloc 13 [(.int .u8 0), (.int .u8 0), (.float 0), (.str (bs [])), (.int .i64 0), (.int .u8 0), (.float 0), (.str (bs [])), (.int .i64 0), (.int .u8 0), (.float 0), (.str (bs [])), (.int .i64 0), (.bool false), (.bool false), (.bool false)] none), none⟩,
              ⟨none, (.store 16 (.t 13) (.t 76)), none⟩,
              ⟨some 14, (.mv (.t 77)), none⟩,
              ⟨some 15, (.mv (.t 78)), none⟩] [[], [0], [0, 1], [0, 1, 2], [0, 1, 2, 3], [], [0, 1, 2, 3, 4, 5], [0, 1, 2, 3, 4, 5, 6], [0, 1, 2, 3, 4, 5, 6, 7], [0, 1, 2, 3, 4, 5, 6, 7], [0, 1, 2, 3, 4, 5, 6, 7], [], [0, 1, 2, 3, 4, 5, 6, 7, 8, 11], [0, 1, 2, 3, 4, 5, 6, 7, 8, 9, 11, 12], [0, 1, 2, 3, 4, 5, 6, 7, 8, 9, 10, 11, 12, 13]])
            (.seq
  (.opsc [
    ⟨some 79, (.mv (.c (.bool true))), none⟩,
    ⟨some 80, (.call 28 [] .bool []), some (79, true)⟩,
    ⟨some 81, (.pick (.t 79) (.t 80) (.c (.bool false))), none⟩] [11, 13, 14, 15, 81] [13] t15)
             .ret))))
def bailifflaw24_RealmNames.t16 : DC := bailifflaw24_RealmNames.tX16 bailifflaw24_RealmNames.t0 bailifflaw24_RealmNames.t1 bailifflaw24_RealmNames.t2 bailifflaw24_RealmNames.t3 bailifflaw24_RealmNames.t4 bailifflaw24_RealmNames.t5 bailifflaw24_RealmNames.t6 bailifflaw24_RealmNames.t7 bailifflaw24_RealmNames.t8 bailifflaw24_RealmNames.t9 bailifflaw24_RealmNames.t10 bailifflaw24_RealmNames.t11 bailifflaw24_RealmNames.t12 bailifflaw24_RealmNames.t13 bailifflaw24_RealmNames.t14 bailifflaw24_RealmNames.t15 .skip
def bailifflaw24_RealmNames.sX16 (t : DC) : DC := .kp [11] [] t
def bailifflaw24_RealmNames.bodyX (t0 t1 t2 t3 t4 t5 t6 t7 t8 t9 t10 t11 t12 t13 t14 t15 t16 : DC) : DC :=
  (.seq
   (.ops [
     ⟨some 0, (.mv (.c (.bool false))), none⟩])
   (.seq
    (.ops [
      ⟨some 17, (.call 163 [(.c (.int .i64 1))] (.p2 .str .bool) []), none⟩,
      ⟨some 16, (.mv (.t 17)), none⟩,
      ⟨some 18, (.ext (.t 16) 0), none⟩,
      ⟨some 19, (.ext (.t 16) 1), none⟩,
      ⟨some 1, (.mv (.t 18)), none⟩,
      ⟨some 2, (.mv (.t 19)), none⟩])
    (.seq
     (.ops [
       ⟨some 21, (.call 163 [(.c (.int .i64 23))] (.p2 .str .bool) []), none⟩,
       ⟨some 20, (.mv (.t 21)), none⟩,
       ⟨some 22, (.ext (.t 20) 0), none⟩,
       ⟨some 23, (.ext (.t 20) 1), none⟩,
       ⟨some 3, (.mv (.t 22)), none⟩,
       ⟨some 4, (.mv (.t 23)), none⟩])
     (.seq
      (.ops [
        ⟨some 25, (.call 163 [(.c (.int .i64 24))] (.p2 .str .bool) []), none⟩,
        ⟨some 24, (.mv (.t 25)), none⟩,
        ⟨some 26, (.ext (.t 24) 0), none⟩,
        ⟨some 27, (.ext (.t 24) 1), none⟩,
        ⟨some 5, (.mv (.t 26)), none⟩,
        ⟨some 6, (.mv (.t 27)), none⟩])
      (.seq
       (.ops [
         ⟨some 29, (.call 163 [(.c (.int .i64 11))] (.p2 .str .bool) []), none⟩,
         ⟨some 28, (.mv (.t 29)), none⟩,
         ⟨some 30, (.ext (.t 28) 0), none⟩,
         ⟨some 31, (.ext (.t 28) 1), none⟩,
         ⟨some 7, (.mv (.t 30)), none⟩,
         ⟨some 8, (.mv (.t 31)), none⟩])
       (.seq
        (.ops [
          ⟨some 33, (.call 165 [(.c (.str (bs [79, 98, 106, 101, 99, 116])))] (.p2 (.int .i64) .bool) []), none⟩,
          ⟨some 32, (.mv (.t 33)), none⟩,
          ⟨some 34, (.ext (.t 32) 0), none⟩,
          ⟨some 35, (.ext (.t 32) 1), none⟩,
          ⟨some 9, (.mv (.t 34)), none⟩,
          ⟨some 10, (.mv (.t 35)), none⟩])
        (.seq
  (.opsc [
    ⟨some 36, (.mv (.t 2)), none⟩,
    ⟨some 37, (.mv (.t 36)), none⟩,
    ⟨some 38, (.mv (.t 1)), some (37, true)⟩,
    ⟨some 39, (.bins .eql (.t 38) (.c (.str (bs [70, 117, 110, 99, 116, 105, 111, 110, 46, 112, 114, 111, 116, 111, 116, 121, 112, 101])))), some (37, true)⟩,
    ⟨some 40, (.pick (.t 37) (.t 39) (.c (.bool false))), none⟩] [3, 4, 5, 6, 8, 10, 40] [] t6)
         (bailifflaw24_RealmNames.sX16 t16))))))))
def bailifflaw24_RealmNames.body : DC := bailifflaw24_RealmNames.bodyX bailifflaw24_RealmNames.t0 bailifflaw24_RealmNames.t1 bailifflaw24_RealmNames.t2 bailifflaw24_RealmNames.t3 bailifflaw24_RealmNames.t4 bailifflaw24_RealmNames.t5 bailifflaw24_RealmNames.t6 bailifflaw24_RealmNames.t7 bailifflaw24_RealmNames.t8 bailifflaw24_RealmNames.t9 bailifflaw24_RealmNames.t10 bailifflaw24_RealmNames.t11 bailifflaw24_RealmNames.t12 bailifflaw24_RealmNames.t13 bailifflaw24_RealmNames.t14 bailifflaw24_RealmNames.t15 bailifflaw24_RealmNames.t16
def bailifflaw24_RealmNames : FD := ⟨0, [.tmp 0], bailifflaw24_RealmNames.body⟩
/-- 28 bailiff/bailifflaw24.alive -/
def bailifflaw24_alive.tX0 (t0 t1 t2 : DC) : DC :=
  (.ops [
    ⟨some 0, (.mv (.t 24)), none⟩])
def bailifflaw24_alive.t0 : DC := bailifflaw24_alive.tX0 .skip .skip .skip
def bailifflaw24_alive.tX1 (t0 t1 t2 : DC) : DC :=
  (.opsc [
    ⟨some 21, (.mv (.t 20)), none⟩,
    ⟨some 22, (.mv (.t 3)), some (21, true)⟩,
    ⟨some 23, (.bini .eql (.t 22) (.c (.int .i64 44))), some (21, true)⟩,
    ⟨some 24, (.pick (.t 21) (.t 23) (.c (.bool false))), none⟩] [24] [] t0)
def bailifflaw24_alive.t1 : DC := bailifflaw24_alive.tX1 bailifflaw24_alive.t0 .skip .skip
def bailifflaw24_alive.tX2 (t0 t1 t2 : DC) : DC :=
  (.opsc [
    ⟨some 18, (.mv (.t 17)), none⟩,
    ⟨some 19, (.mv (.t 4)), some (18, true)⟩,
    ⟨some 20, (.pick (.t 18) (.t 19) (.c (.bool false))), none⟩] [3, 20] [] t1)
def bailifflaw24_alive.t2 : DC := bailifflaw24_alive.tX2 bailifflaw24_alive.t0 bailifflaw24_alive.t1 .skip
def bailifflaw24_alive.bodyX (t0 t1 t2 : DC) : DC :=
  (.seq
   (.ops [
     ⟨some 0, (.mv (.c (.bool false))), none⟩])
   (.seq
    (.ops [
      ⟨some 6, (.call 163 [(.c (.int .i64 14))] (.p2 .str .bool) []), none⟩,
      ⟨some 5, (.mv (.t 6)), none⟩,
      ⟨some 7, (.ext (.t 5) 0), none⟩,
      ⟨some 8, (.ext (.t 5) 1), none⟩,
      ⟨some 1, (.mv (.t 7)), none⟩,
      ⟨some 2, (.mv (.t 8)), none⟩])
    (.seq
     (.ops [
       ⟨some 10, (.call 165 [(.c (.str (bs [82, 101, 102, 108, 101, 99, 116, 46, 103, 101, 116])))] (.p2 (.int .i64) .bool) []), none⟩,
       ⟨some 9, (.mv (.t 10)), none⟩,
       ⟨some 11, (.ext (.t 9) 0), none⟩,
       ⟨some 12, (.ext (.t 9) 1), none⟩,
       ⟨some 3, (.mv (.t 11)), none⟩,
       ⟨some 4, (.mv (.t 12)), none⟩])
     (.seq
  (.opsc [
    ⟨some 13, (.mv (.t 2)), none⟩,
    ⟨some 14, (.mv (.t 13)), none⟩,
    ⟨some 15, (.mv (.t 1)), some (14, true)⟩,
    ⟨some 16, (.bins .eql (.t 15) (.c (.str (bs [80, 114, 111, 120, 121])))), some (14, true)⟩,
    ⟨some 17, (.pick (.t 14) (.t 16) (.c (.bool false))), none⟩] [3, 4, 17] [] t2)
      .ret))))
def bailifflaw24_alive.body : DC := bailifflaw24_alive.bodyX bailifflaw24_alive.t0 bailifflaw24_alive.t1 bailifflaw24_alive.t2
def bailifflaw24_alive : FD := ⟨0, [.tmp 0], bailifflaw24_alive.body⟩
/-- 94 bailiff/bailiffref24.All -/
def bailiffref24_All.bX0 (t0 t1 : DC) : DC :=
  (.seq
   (.seq
    (.ops [
      ⟨some 8, (.mv (.t 3)), none⟩,
      ⟨some 9, (.mv (.t 2)), none⟩,
      ⟨some 10, (.len false (.t 9)), none⟩,
      ⟨some 11, (.bini .lss (.t 8) (.t 10)), none⟩])
    (.cond (.t 11)
     .skip
     (.exit 0)))
   (.seq
    (.block 1
     (.ops [
       ⟨some 14, (.mv (.t 1)), none⟩,
       ⟨some 15, (.mv (.t 2)), none⟩,
       ⟨some 16, (.mv (.t 3)), none⟩,
       ⟨some 17, (.iaddr false 0 1 (.t 15) (.t 16)), none⟩,
       ⟨some 18, (.load none (.t 17)), none⟩,
       ⟨some 19, (.bins .add (.c (.str (bs [79, 98, 106, 101, 99, 116, 46]))) (.t 18)), none⟩,
       ⟨some 20, (.bslice none .str (List.replicate 1 (bs [])) [(0, (.t 19))]), none⟩,
       ⟨some 21, (.append 1001 .str (.t 14) (.t 20)), none⟩,
       ⟨some 1, (.mv (.t 21)), none⟩]))
    (.ops [
      ⟨some 12, (.mv (.t 3)), none⟩,
      ⟨some 13, (.bini .add (.t 12) (.c (.int .i64 1))), none⟩,
      ⟨some 3, (.mv (.t 13)), none⟩])))
def bailiffref24_All.bX1 (t0 t1 : DC) : DC :=
  (.seq
   (.seq
    (.ops [
      ⟨some 23, (.mv (.t 5)), none⟩,
      ⟨some 24, (.mv (.t 4)), none⟩,
      ⟨some 25, (.len false (.t 24)), none⟩,
      ⟨some 26, (.bini .lss (.t 23) (.t 25)), none⟩])
    (.cond (.t 26)
     .skip
     (.exit 2)))
   (.seq
    (.block 3
     (.ops [
       ⟨some 29, (.mv (.t 1)), none⟩,
       ⟨some 30, (.mv (.t 4)), none⟩,
       ⟨some 31, (.mv (.t 5)), none⟩,
       ⟨some 32, (.iaddr false 0 1 (.t 30) (.t 31)), none⟩,
       ⟨some 33, (.load none (.t 32)), none⟩,
       ⟨some 34, (.bins .add (.c (.str (bs [82, 101, 102, 108, 101, 99, 116, 46]))) (.t 33)), none⟩,
       ⟨some 35, (.bslice none .str (List.replicate 1 (bs [])) [(0, (.t 34))]), none⟩,
       ⟨some 36, (.append 1001 .str (.t 29) (.t 35)), none⟩,
       ⟨some 1, (.mv (.t 36)), none⟩]))
    (.ops [
      ⟨some 27, (.mv (.t 5)), none⟩,
      ⟨some 28, (.bini .add (.t 27) (.c (.int .i64 1))), none⟩,
      ⟨some 5, (.mv (.t 28)), none⟩])))
def bailiffref24_All.tX0 (t0 t1 : DC) : DC :=
        (.seq
         (.ops [
           ⟨some 37, (.mv (.t 1)), none⟩,
           ⟨some 38, (.call 102 [] (.lst false .str) []), none⟩,
           ⟨some 39, (.append 1001 .str (.t 37) (.t 38)), none⟩,
           ⟨some 0, (.mv (.t 39)), none⟩])
         .ret)
def bailiffref24_All.t0 : DC := bailiffref24_All.tX0 .skip .skip
def bailiffref24_All.sX0 (t : DC) : DC := .kp [1] [1001] t
def bailiffref24_All.tX1 (t0 t1 : DC) : DC :=
      (.seq
       (.ops [
         ⟨some 22, (.call 101 [] (.lst false .str) []), none⟩,
         ⟨some 4, (.mv (.t 22)), none⟩])
       (.seq
        (.seq
         (.ops [
           ⟨some 5, (.mv (.c (.int .i64 0))), none⟩])
         (.block 2
          (.loop [1, 4, 5] [1001] (bailiffref24_All.bX1 t0 t1))))
        (bailiffref24_All.sX0 t0)))
def bailiffref24_All.t1 : DC := bailiffref24_All.tX1 bailiffref24_All.t0 .skip
def bailiffref24_All.sX1 (t : DC) : DC := .kp [1] [1001] t
def bailiffref24_All.bodyX (t0 t1 : DC) : DC :=
  (.seq
   (.ops [
     ⟨some 0, (.mv (.c (.nsl .str))), none⟩])
   (.seq
    (.ops [
      ⟨some 6, (.call 95 [] (.lst true .str) [1001]), none⟩,
      ⟨some 1, (.mv (.t 6)), none⟩])
    (.seq
     (.ops [
       ⟨some 7, (.call 100 [] (.lst false .str) []), none⟩,
       ⟨some 2, (.mv (.t 7)), none⟩])
     (.seq
      (.seq
       (.ops [
         ⟨some 3, (.mv (.c (.int .i64 0))), none⟩])
       (.block 0
        (.loop [1, 2, 3] [1001] (bailiffref24_All.bX0 t0 t1))))
      (bailiffref24_All.sX1 t1)))))
def bailiffref24_All.body : DC := bailiffref24_All.bodyX bailiffref24_All.t0 bailiffref24_All.t1
def bailiffref24_All : FD := ⟨0, [.tmp 0], bailiffref24_All.body⟩
/-- 95 bailiff/bailiffref24.Firsts -/
def bailiffref24_Firsts.bodyX : DC :=
  (.seq
   (.ops [
     ⟨some 0, (.mv (.c (.nsl .str))), none⟩])
   (.seq
    (.ops [
      ⟨some 1, (.bslice (some 3001) .str (List.replicate 24 (bs [])) [(0, (.c (.str (bs [79, 98, 106, 101, 99, 116, 46, 112, 114, 111, 116, 111, 116, 121, 112, 101])))), (1, (.c (.str (bs [70, 117, 110, 99, 116, 105, 111, 110, 46, 112, 114, 111, 116, 111, 116, 121, 112, 101])))), (2, (.c (.str (bs [65, 114, 114, 97, 121, 46, 112, 114, 111, 116, 111, 116, 121, 112, 101])))), (3, (.c (.str (bs [83, 116, 114, 105, 110, 103, 46, 112, 114, 111, 116, 111, 116, 121, 112, 101])))), (4, (.c (.str (bs [78, 117, 109, 98, 101, 114, 46, 112, 114, 111, 116, 111, 116, 121, 112, 101])))), (5, (.c (.str (bs [66, 111, 111, 108, 101, 97, 110, 46, 112, 114, 111, 116, 111, 116, 121, 112, 101])))), (6, (.c (.str (bs [83, 121, 109, 98, 111, 108, 46, 112, 114, 111, 116, 111, 116, 121, 112, 101])))), (7, (.c (.str (bs [69, 114, 114, 111, 114, 46, 112, 114, 111, 116, 111, 116, 121, 112, 101])))), (8, (.c (.str (bs [84, 121, 112, 101, 69, 114, 114, 111, 114, 46, 112, 114, 111, 116, 111, 116, 121, 112, 101])))), (9, (.c (.str (bs [82, 97, 110, 103, 101, 69, 114, 114, 111, 114, 46, 112, 114, 111, 116, 111, 116, 121, 112, 101])))), (10, (.c (.str (bs [82, 101, 102, 101, 114, 101, 110, 99, 101, 69, 114, 114, 111, 114, 46, 112, 114, 111, 116, 111, 116, 121, 112, 101])))), (11, (.c (.str (bs [79, 98, 106, 101, 99, 116])))), (12, (.c (.str (bs [82, 101, 102, 108, 101, 99, 116])))), (13, (.c (.str (bs [65, 114, 114, 97, 121])))), (14, (.c (.str (bs [80, 114, 111, 120, 121])))), (15, (.c (.str (bs [83, 116, 114, 105, 110, 103])))), (16, (.c (.str (bs [69, 114, 114, 111, 114])))), (17, (.c (.str (bs [84, 121, 112, 101, 69, 114, 114, 111, 114])))), (18, (.c (.str (bs [82, 97, 110, 103, 101, 69, 114, 114, 111, 114])))), (19, (.c (.str (bs [82, 101, 102, 101, 114, 101, 110, 99, 101, 69, 114, 114, 111, 114])))), (20, (.c (.str (bs [78, 117, 109, 98, 101, 114])))), (21, (.c (.str (bs [66, 111, 111, 108, 101, 97, 110])))), (22, (.c (.str (bs [83, 121, 109, 98, 111, 108])))), (23, (.c (.str (bs [112, 114, 105, 110, 116]))))]), none⟩,
      ⟨some 0, (.mv (.t 1)), none⟩])
    .ret))
def bailiffref24_Firsts.body : DC := bailiffref24_Firsts.bodyX
def bailiffref24_Firsts : FD := ⟨0, [.tmp 0], bailiffref24_Firsts.body⟩
/-- 100 bailiff/bailiffref24.OfObject -/
def bailiffref24_OfObject.bodyX : DC :=
  (.seq
   (.ops [
     ⟨some 0, (.mv (.c (.nsl .str))), none⟩])
   (.seq
    (.ops [
      ⟨some 1, (.bslice (some 3001) .str (List.replicate 16 (bs [])) [(0, (.c (.str (bs [97, 115, 115, 105, 103, 110])))), (1, (.c (.str (bs [99, 114, 101, 97, 116, 101])))), (2, (.c (.str (bs [100, 101, 102, 105, 110, 101, 80, 114, 111, 112, 101, 114, 116, 121])))), (3, (.c (.str (bs [102, 114, 101, 101, 122, 101])))), (4, (.c (.str (bs [103, 101, 116, 79, 119, 110, 80, 114, 111, 112, 101, 114, 116, 121, 68, 101, 115, 99, 114, 105, 112, 116, 111, 114])))), (5, (.c (.str (bs [103, 101, 116, 79, 119, 110, 80, 114, 111, 112, 101, 114, 116, 121, 78, 97, 109, 101, 115])))), (6, (.c (.str (bs [103, 101, 116, 79, 119, 110, 80, 114, 111, 112, 101, 114, 116, 121, 83, 121, 109, 98, 111, 108, 115])))), (7, (.c (.str (bs [103, 101, 116, 80, 114, 111, 116, 111, 116, 121, 112, 101, 79, 102])))), (8, (.c (.str (bs [105, 115])))), (9, (.c (.str (bs [105, 115, 69, 120, 116, 101, 110, 115, 105, 98, 108, 101])))), (10, (.c (.str (bs [105, 115, 70, 114, 111, 122, 101, 110])))), (11, (.c (.str (bs [105, 115, 83, 101, 97, 108, 101, 100])))), (12, (.c (.str (bs [107, 101, 121, 115])))), (13, (.c (.str (bs [112, 114, 101, 118, 101, 110, 116, 69, 120, 116, 101, 110, 115, 105, 111, 110, 115])))), (14, (.c (.str (bs [115, 101, 97, 108])))), (15, (.c (.str (bs [115, 101, 116, 80, 114, 111, 116, 111, 116, 121, 112, 101, 79, 102]))))]), none⟩,
      ⟨some 0, (.mv (.t 1)), none⟩])
    .ret))
def bailiffref24_OfObject.body : DC := bailiffref24_OfObject.bodyX
def bailiffref24_OfObject : FD := ⟨0, [.tmp 0], bailiffref24_OfObject.body⟩
/-- 101 bailiff/bailiffref24.OfReflect -/
def bailiffref24_OfReflect.bodyX : DC :=
  (.seq
   (.ops [
     ⟨some 0, (.mv (.c (.nsl .str))), none⟩])
   (.seq
    (.ops [
      ⟨some 1, (.bslice (some 3001) .str (List.replicate 13 (bs [])) [(0, (.c (.str (bs [97, 112, 112, 108, 121])))), (1, (.c (.str (bs [99, 111, 110, 115, 116, 114, 117, 99, 116])))), (2, (.c (.str (bs [100, 101, 102, 105, 110, 101, 80, 114, 111, 112, 101, 114, 116, 121])))), (3, (.c (.str (bs [100, 101, 108, 101, 116, 101, 80, 114, 111, 112, 101, 114, 116, 121])))), (4, (.c (.str (bs [103, 101, 116])))), (5, (.c (.str (bs [103, 101, 116, 79, 119, 110, 80, 114, 111, 112, 101, 114, 116, 121, 68, 101, 115, 99, 114, 105, 112, 116, 111, 114])))), (6, (.c (.str (bs [103, 101, 116, 80, 114, 111, 116, 111, 116, 121, 112, 101, 79, 102])))), (7, (.c (.str (bs [104, 97, 115])))), (8, (.c (.str (bs [105, 115, 69, 120, 116, 101, 110, 115, 105, 98, 108, 101])))), (9, (.c (.str (bs [111, 119, 110, 75, 101, 121, 115])))), (10, (.c (.str (bs [112, 114, 101, 118, 101, 110, 116, 69, 120, 116, 101, 110, 115, 105, 111, 110, 115])))), (11, (.c (.str (bs [115, 101, 116])))), (12, (.c (.str (bs [115, 101, 116, 80, 114, 111, 116, 111, 116, 121, 112, 101, 79, 102]))))]), none⟩,
      ⟨some 0, (.mv (.t 1)), none⟩])
    .ret))
def bailiffref24_OfReflect.body : DC := bailiffref24_OfReflect.bodyX
def bailiffref24_OfReflect : FD := ⟨0, [.tmp 0], bailiffref24_OfReflect.body⟩
/-- 102 bailiff/bailiffref24.Others -/
def bailiffref24_Others.bodyX : DC :=
  (.seq
   (.ops [
     ⟨some 0, (.mv (.c (.nsl .str))), none⟩])
   (.seq
    (.ops [
      ⟨some 1, (.bslice (some 3001) .str (List.replicate 19 (bs [])) [(0, (.c (.str (bs [80, 114, 111, 120, 121, 46, 114, 101, 118, 111, 99, 97, 98, 108, 101])))), (1, (.c (.str (bs [65, 114, 114, 97, 121, 46, 105, 115, 65, 114, 114, 97, 121])))), (2, (.c (.str (bs [79, 98, 106, 101, 99, 116, 46, 112, 114, 111, 116, 111, 116, 121, 112, 101, 46, 104, 97, 115, 79, 119, 110, 80, 114, 111, 112, 101, 114, 116, 121])))), (3, (.c (.str (bs [79, 98, 106, 101, 99, 116, 46, 112, 114, 111, 116, 111, 116, 121, 112, 101, 46, 116, 111, 83, 116, 114, 105, 110, 103])))), (4, (.c (.str (bs [79, 98, 106, 101, 99, 116, 46, 112, 114, 111, 116, 111, 116, 121, 112, 101, 46, 118, 97, 108, 117, 101, 79, 102])))), (5, (.c (.str (bs [70, 117, 110, 99, 116, 105, 111, 110, 46, 112, 114, 111, 116, 111, 116, 121, 112, 101, 46, 97, 112, 112, 108, 121])))), (6, (.c (.str (bs [70, 117, 110, 99, 116, 105, 111, 110, 46, 112, 114, 111, 116, 111, 116, 121, 112, 101, 46, 99, 97, 108, 108])))), (7, (.c (.str (bs [65, 114, 114, 97, 121, 46, 112, 114, 111, 116, 111, 116, 121, 112, 101, 46, 112, 117, 115, 104])))), (8, (.c (.str (bs [83, 116, 114, 105, 110, 103, 46, 112, 114, 111, 116, 111, 116, 121, 112, 101, 46, 105, 110, 100, 101, 120, 79, 102])))), (9, (.c (.str (bs [83, 116, 114, 105, 110, 103, 46, 112, 114, 111, 116, 111, 116, 121, 112, 101, 46, 115, 108, 105, 99, 101])))), (10, (.c (.str (bs [83, 116, 114, 105, 110, 103, 46, 112, 114, 111, 116, 111, 116, 121, 112, 101, 46, 116, 111, 83, 116, 114, 105, 110, 103])))), (11, (.c (.str (bs [83, 116, 114, 105, 110, 103, 46, 112, 114, 111, 116, 111, 116, 121, 112, 101, 46, 118, 97, 108, 117, 101, 79, 102])))), (12, (.c (.str (bs [78, 117, 109, 98, 101, 114, 46, 112, 114, 111, 116, 111, 116, 121, 112, 101, 46, 116, 111, 83, 116, 114, 105, 110, 103])))), (13, (.c (.str (bs [78, 117, 109, 98, 101, 114, 46, 112, 114, 111, 116, 111, 116, 121, 112, 101, 46, 118, 97, 108, 117, 101, 79, 102])))), (14, (.c (.str (bs [66, 111, 111, 108, 101, 97, 110, 46, 112, 114, 111, 116, 111, 116, 121, 112, 101, 46, 116, 111, 83, 116, 114, 105, 110, 103])))), (15, (.c (.str (bs [66, 111, 111, 108, 101, 97, 110, 46, 112, 114, 111, 116, 111, 116, 121, 112, 101, 46, 118, 97, 108, 117, 101, 79, 102])))), (16, (.c (.str (bs [83, 121, 109, 98, 111, 108, 46, 112, 114, 111, 116, 111, 116, 121, 112, 101, 46, 116, 111, 83, 116, 114, 105, 110, 103])))), (17, (.c (.str (bs [83, 121, 109, 98, 111, 108, 46, 112, 114, 111, 116, 111, 116, 121, 112, 101, 46, 118, 97, 108, 117, 101, 79, 102])))), (18, (.c (.str (bs [69, 114, 114, 111, 114, 46, 112, 114, 111, 116, 111, 116, 121, 112, 101, 46, 116, 111, 83, 116, 114, 105, 110, 103]))))]), none⟩,
      ⟨some 0, (.mv (.t 1)), none⟩])
    .ret))
def bailiffref24_Others.body : DC := bailiffref24_Others.bodyX
def bailiffref24_Others : FD := ⟨0, [.tmp 0], bailiffref24_Others.body⟩
/-- 105 bailiff/bailiffref24.cut -/
def bailiffref24_cut.bX0 (t0 : DC) : DC :=
  (.seq
   (.seq
    (.ops [
      ⟨some 8, (.mv (.t 4)), none⟩,
      ⟨some 9, (.bini .geq (.t 8) (.c (.int .i64 0))), none⟩])
    (.cond (.t 9)
     .skip
     (.exit 0)))
   (.seq
    (.block 1
     (.seq
      (.ops [
        ⟨some 12, (.mv (.t 0)), none⟩,
        ⟨some 13, (.mv (.t 4)), none⟩,
        ⟨some 14, (.idxs (.t 12) (.t 13)), none⟩,
        ⟨some 15, (.bini .eql (.t 14) (.c (.int .u8 46))), none⟩])
      (.cond (.t 15)
       (.seq
        (.draw [
          ⟨some 16, (.mv (.t 0)), none⟩,
          ⟨some 17, (.mv (.t 4)), none⟩,
          ⟨some 18, (.sstr (.t 16) none (some (.t 17))), none⟩,
          ⟨some 19, (.mv (.t 0)), none⟩,
          ⟨some 20, (.mv (.t 4)), none⟩,
          ⟨some 21, (.bini .add (.t 20) (.c (.int .i64 1))), none⟩,
          ⟨some 22, (.sstr (.t 19) (some (.t 21)) none), none⟩,
          ⟨some 2, (.mv (.t 18)), none⟩,
          ⟨some 3, (.mv (.t 22)), none⟩] [[], [], [0, 1], [], [], [4], [3, 4, 5], [0, 1, 2], [0, 1, 2, 3, 4, 5, 6, 7]])
        .ret)
       .skip)))
    (.ops [
      ⟨some 10, (.mv (.t 4)), none⟩,
      ⟨some 11, (.bini .sub (.t 10) (.c (.int .i64 1))), none⟩,
      ⟨some 4, (.mv (.t 11)), none⟩])))
def bailiffref24_cut.tX0 (t0 : DC) : DC :=
    (.seq
     (.ops [
       ⟨some 23, (.mv (.t 0)), none⟩,
       ⟨some 2, (.mv (.c (.str (bs [])))), none⟩,
       ⟨some 3, (.mv (.t 23)), none⟩])
     .ret)
def bailiffref24_cut.t0 : DC := bailiffref24_cut.tX0 .skip
def bailiffref24_cut.sX0 (t : DC) : DC := .kp [0] [] t
def bailiffref24_cut.bodyX (t0 : DC) : DC :=
  (.seq
   (.ops [
     ⟨some 2, (.mv (.c (.str (bs [])))), none⟩,
     ⟨some 3, (.mv (.c (.str (bs [])))), none⟩])
   (.seq
    (.seq
     (.ops [
       ⟨some 5, (.mv (.t 0)), none⟩,
       ⟨some 6, (.len true (.t 5)), none⟩,
       ⟨some 7, (.bini .sub (.t 6) (.c (.int .i64 1))), none⟩,
       ⟨some 4, (.mv (.t 7)), none⟩])
     (.block 0
      (.loop [0, 4] [] (bailiffref24_cut.bX0 t0))))
    (bailiffref24_cut.sX0 t0)))
def bailiffref24_cut.body : DC := bailiffref24_cut.bodyX bailiffref24_cut.t0
def bailiffref24_cut : FD := ⟨1, [.tmp 2, .tmp 3], bailiffref24_cut.body⟩
/-- 125 bailiff/desc.Check -/
def desc_Check.tX0 (t0 t1 t2 t3 t4 t5 t6 t7 t8 t9 : DC) : DC :=
  (.ops [
    ⟨some 31, (.mv (.t 30)), none⟩,
    ⟨some 32, (.faddr 9 (.t 1)), some (31, false)⟩,
    ⟨some 33, (.load (some 4) (.t 32)), some (31, false)⟩,
    ⟨some 34, (.call 133 [(.t 33)] .bool []), some (31, false)⟩,
    ⟨some 35, (.not (.t 34)), some (31, false)⟩,
    ⟨some 36, (.pick (.t 31) (.c (.bool true)) (.t 35)), none⟩])
def desc_Check.t0 : DC := desc_Check.tX0 .skip .skip .skip .skip .skip .skip .skip .skip .skip .skip
def desc_Check.tX1 (t0 t1 t2 t3 t4 t5 t6 t7 t8 t9 : DC) : DC :=
  (.opsc [
    ⟨some 25, (.mv (.t 24)), none⟩,
    ⟨some 26, (.faddr 5 (.t 1)), some (25, false)⟩,
    ⟨some 27, (.load (some 4) (.t 26)), some (25, false)⟩,
    ⟨some 28, (.call 133 [(.t 27)] .bool []), some (25, false)⟩,
    ⟨some 29, (.not (.t 28)), some (25, false)⟩,
    ⟨some 30, (.pick (.t 25) (.c (.bool true)) (.t 29)), none⟩] [1, 30] [1] t0)
def desc_Check.t1 : DC := desc_Check.tX1 desc_Check.t0 .skip .skip .skip .skip .skip .skip .skip .skip .skip
def desc_Check.tX2 (t0 t1 t2 t3 t4 t5 t6 t7 t8 t9 : DC) : DC :=
  (.opsc [
    ⟨some 19, (.mv (.t 18)), none⟩,
    ⟨some 20, (.faddr 1 (.t 1)), some (19, false)⟩,
    ⟨some 21, (.load (some 4) (.t 20)), some (19, false)⟩,
    ⟨some 22, (.call 182 [(.t 21)] .bool []), some (19, false)⟩,
    ⟨some 23, (.not (.t 22)), some (19, false)⟩,
    ⟨some 24, (.pick (.t 19) (.c (.bool true)) (.t 23)), none⟩] [1, 24] [1] t1)
def desc_Check.t2 : DC := desc_Check.tX2 desc_Check.t0 desc_Check.t1 .skip .skip .skip .skip .skip .skip .skip .skip
def desc_Check.tX3 (t0 t1 t2 t3 t4 t5 t6 t7 t8 t9 : DC) : DC :=
       (.cond (.t 36)
        (.seq
         (.ops [
           ⟨some 2, (.mv (.c (.int .i64 90))), none⟩])
         .ret)
        .skip)
def desc_Check.t3 : DC := desc_Check.tX3 desc_Check.t0 desc_Check.t1 desc_Check.t2 .skip .skip .skip .skip .skip .skip .skip
def desc_Check.sX3 (t : DC) : DC := .kp [1, 36] [1] t
def desc_Check.tX4 (t0 t1 t2 t3 t4 t5 t6 t7 t8 t9 : DC) : DC :=
  (.ops [
    ⟨some 60, (.mv (.t 59)), none⟩,
    ⟨some 61, (.mv (.t 4)), some (60, false)⟩,
    ⟨some 62, (.bini .and (.t 61) (.c (.int .u8 8))), some (60, false)⟩,
    ⟨some 63, (.bini .neq (.t 62) (.c (.int .u8 0))), some (60, false)⟩,
    ⟨some 64, (.mv (.t 63)), some (60, false)⟩,
    ⟨some 65, (.faddr 9 (.t 1)), some (64, true)⟩,
    ⟨some 66, (.load (some 4) (.t 65)), some (64, true)⟩,
    ⟨some 67, (.build [(.int .u8 0), (.float 0), (.str (bs [])), (.int .i64 0)] []), some (64, true)⟩,
    ⟨some 68, (.eqa true [0, 3, 2, 0] (.t 66) (.t 67)), some (64, true)⟩,
    ⟨some 69, (.pick (.t 64) (.t 68) (.c (.bool false))), some (60, false)⟩,
    ⟨some 70, (.pick (.t 60) (.c (.bool true)) (.t 69)), none⟩])
def desc_Check.t4 : DC := desc_Check.tX4 desc_Check.t0 desc_Check.t1 desc_Check.t2 desc_Check.t3 .skip .skip .skip .skip .skip .skip
def desc_Check.tX5 (t0 t1 t2 t3 t4 t5 t6 t7 t8 t9 : DC) : DC :=
  (.opsc [
    ⟨some 49, (.mv (.t 48)), none⟩,
    ⟨some 50, (.mv (.t 4)), some (49, false)⟩,
    ⟨some 51, (.bini .and (.t 50) (.c (.int .u8 4))), some (49, false)⟩,
    ⟨some 52, (.bini .neq (.t 51) (.c (.int .u8 0))), some (49, false)⟩,
    ⟨some 53, (.mv (.t 52)), some (49, false)⟩,
    ⟨some 54, (.faddr 5 (.t 1)), some (53, true)⟩,
    ⟨some 55, (.load (some 4) (.t 54)), some (53, true)⟩,
    ⟨some 56, (.build [(.int .u8 0), (.float 0), (.str (bs [])), (.int .i64 0)] []), some (53, true)⟩,
    ⟨some 57, (.eqa true [0, 3, 2, 0] (.t 55) (.t 56)), some (53, true)⟩,
    ⟨some 58, (.pick (.t 53) (.t 57) (.c (.bool false))), some (49, false)⟩,
    ⟨some 59, (.pick (.t 49) (.c (.bool true)) (.t 58)), none⟩] [1, 4, 59] [1] t4)
def desc_Check.t5 : DC := desc_Check.tX5 desc_Check.t0 desc_Check.t1 desc_Check.t2 desc_Check.t3 desc_Check.t4 .skip .skip .skip .skip .skip
def desc_Check.tX6 (t0 t1 t2 t3 t4 t5 t6 t7 t8 t9 : DC) : DC :=
         (.cond (.t 70)
          (.seq
           (.ops [
             ⟨some 2, (.mv (.c (.int .i64 90))), none⟩])
           .ret)
          .skip)
def desc_Check.t6 : DC := desc_Check.tX6 desc_Check.t0 desc_Check.t1 desc_Check.t2 desc_Check.t3 desc_Check.t4 desc_Check.t5 .skip .skip .skip .skip
def desc_Check.sX6 (t : DC) : DC := .kp [1, 4, 70] [1] t
def desc_Check.tX7 (t0 t1 t2 t3 t4 t5 t6 t7 t8 t9 : DC) : DC :=
  (.ops [
    ⟨some 87, (.mv (.t 86)), none⟩,
    ⟨some 88, (.mv (.t 4)), some (87, false)⟩,
    ⟨some 89, (.bini .and (.t 88) (.c (.int .u8 32))), some (87, false)⟩,
    ⟨some 90, (.bini .neq (.t 89) (.c (.int .u8 0))), some (87, false)⟩,
    ⟨some 91, (.mv (.t 90)), some (87, false)⟩,
    ⟨some 92, (.faddr 15 (.t 1)), some (91, true)⟩,
    ⟨some 93, (.load none (.t 92)), some (91, true)⟩,
    ⟨some 94, (.pick (.t 91) (.t 93) (.c (.bool false))), some (87, false)⟩,
    ⟨some 95, (.pick (.t 87) (.c (.bool true)) (.t 94)), none⟩])
def desc_Check.t7 : DC := desc_Check.tX7 desc_Check.t0 desc_Check.t1 desc_Check.t2 desc_Check.t3 desc_Check.t4 desc_Check.t5 desc_Check.t6 .skip .skip .skip
def desc_Check.tX8 (t0 t1 t2 t3 t4 t5 t6 t7 t8 t9 : DC) : DC :=
  (.opsc [
    ⟨some 78, (.mv (.t 77)), none⟩,
    ⟨some 79, (.mv (.t 4)), some (78, false)⟩,
    ⟨some 80, (.bini .and (.t 79) (.c (.int .u8 16))), some (78, false)⟩,
    ⟨some 81, (.bini .neq (.t 80) (.c (.int .u8 0))), some (78, false)⟩,
    ⟨some 82, (.mv (.t 81)), some (78, false)⟩,
    ⟨some 83, (.faddr 14 (.t 1)), some (82, true)⟩,
    ⟨some 84, (.load none (.t 83)), some (82, true)⟩,
    ⟨some 85, (.pick (.t 82) (.t 84) (.c (.bool false))), some (78, false)⟩,
    ⟨some 86, (.pick (.t 78) (.c (.bool true)) (.t 85)), none⟩] [1, 4, 86] [1] t7)
def desc_Check.t8 : DC := desc_Check.tX8 desc_Check.t0 desc_Check.t1 desc_Check.t2 desc_Check.t3 desc_Check.t4 desc_Check.t5 desc_Check.t6 desc_Check.t7 .skip .skip
def desc_Check.tX9 (t0 t1 t2 t3 t4 t5 t6 t7 t8 t9 : DC) : DC :=
          (.cond (.t 95)
           (.seq
            (.ops [
              ⟨some 2, (.mv (.c (.int .i64 90))), none⟩])
            .ret)
           .skip)
def desc_Check.t9 : DC := desc_Check.tX9 desc_Check.t0 desc_Check.t1 desc_Check.t2 desc_Check.t3 desc_Check.t4 desc_Check.t5 desc_Check.t6 desc_Check.t7 desc_Check.t8 .skip
def desc_Check.sX9 (t : DC) : DC := .kp [95] [] t
def desc_Check.bodyX (t0 t1 t2 t3 t4 t5 t6 t7 t8 t9 : DC) : DC :=
  (.seq
   (.ops [
     ⟨some 1, (.box 1 (.t 0)), none⟩,
     ⟨some 2, (.mv (.c (.int .i64 0))), none⟩])
   (.seq
    (.ops [
      ⟨some 5, (.faddr 0 (.t 1)), none⟩,
      ⟨some 6, (.load none (.t 5)), none⟩,
      ⟨some 3, (.mv (.t 6)), none⟩])
    (.seq
     (.ops [
       ⟨some 7, (.mv (.t 3)), none⟩,
       ⟨some 8, (.bini .andNot (.t 7) (.c (.int .u8 63))), none⟩,
       ⟨some 3, (.mv (.t 8)), none⟩])
     (.seq
      (.seq
  (.opsc [
    ⟨some 9, (.mv (.t 3)), none⟩,
    ⟨some 10, (.bini .neq (.t 9) (.c (.int .u8 0))), none⟩,
    ⟨some 11, (.mv (.t 10)), none⟩,
    ⟨some 12, (.load (some 16) (.t 1)), some (11, false)⟩,
    ⟨some 13, (.call 129 [(.t 12)] .bool []), some (11, false)⟩,
    ⟨some 14, (.mv (.t 13)), some (11, false)⟩,
    ⟨some 15, (.load (some 16) (.t 1)), some (14, true)⟩,
    ⟨some 16, (.call 128 [(.t 15)] .bool []), some (14, true)⟩,
    ⟨some 17, (.pick (.t 14) (.t 16) (.c (.bool false))), some (11, false)⟩,
    ⟨some 18, (.pick (.t 11) (.c (.bool true)) (.t 17)), none⟩] [1, 18] [1] t2)
       (desc_Check.sX3 t3))
      (.seq
       (.ops [
         ⟨some 37, (.faddr 0 (.t 1)), none⟩,
         ⟨some 38, (.load none (.t 37)), none⟩,
         ⟨some 39, (.xor (.t 38)), none⟩,
         ⟨some 4, (.mv (.t 39)), none⟩])
       (.seq
        (.seq
  (.opsc [
    ⟨some 40, (.mv (.t 4)), none⟩,
    ⟨some 41, (.bini .and (.t 40) (.c (.int .u8 1))), none⟩,
    ⟨some 42, (.bini .neq (.t 41) (.c (.int .u8 0))), none⟩,
    ⟨some 43, (.mv (.t 42)), none⟩,
    ⟨some 44, (.faddr 1 (.t 1)), some (43, true)⟩,
    ⟨some 45, (.load (some 4) (.t 44)), some (43, true)⟩,
    ⟨some 46, (.build [(.int .u8 0), (.float 0), (.str (bs [])), (.int .i64 0)] []), some (43, true)⟩,
    ⟨some 47, (.eqa true [0, 3, 2, 0] (.t 45) (.t 46)), some (43, true)⟩,
    ⟨some 48, (.pick (.t 43) (.t 47) (.c (.bool false))), none⟩] [1, 4, 48] [1] t5)
         (desc_Check.sX6 t6))
        (.seq
         (.seq
  (.opsc [
    ⟨some 71, (.mv (.t 4)), none⟩,
    ⟨some 72, (.bini .and (.t 71) (.c (.int .u8 2))), none⟩,
    ⟨some 73, (.bini .neq (.t 72) (.c (.int .u8 0))), none⟩,
    ⟨some 74, (.mv (.t 73)), none⟩,
    ⟨some 75, (.faddr 13 (.t 1)), some (74, true)⟩,
    ⟨some 76, (.load none (.t 75)), some (74, true)⟩,
    ⟨some 77, (.pick (.t 74) (.t 76) (.c (.bool false))), none⟩] [1, 4, 77] [1] t8)
          (desc_Check.sX9 t9))
         (.seq
          (.ops [
            ⟨some 2, (.mv (.c (.int .i64 0))), none⟩])
          .ret))))))))
def desc_Check.body : DC := desc_Check.bodyX desc_Check.t0 desc_Check.t1 desc_Check.t2 desc_Check.t3 desc_Check.t4 desc_Check.t5 desc_Check.t6 desc_Check.t7 desc_Check.t8 desc_Check.t9
def desc_Check : FD := ⟨1, [.tmp 2], desc_Check.body⟩
/-- 127 bailiff/desc.Complete -/
def desc_Complete.bodyX : DC :=
  (.seq
   (.ops [
     ⟨some 1, (.box 1 (.t 0)), none⟩,
     ⟨some 2, (.alloc 2 [(.int .u8 0), (.int .u8 0), (.float 0), (.str (bs [])), (.int .i64 0), (.int .u8 0), (.float 0), (.str (bs [])), (.int .i64 0), (.int .u8 0), (.float 0), (.str (bs [])), (.int .i64 0), (.bool false), (.bool false), (.bool false)] none), none⟩,
     ⟨some 3, (.mv (.c (.int .i64 0))), none⟩])
   (.seq
    (.seq
     (.ops [
       ⟨some 5, (.load (some 16) (.t 1)), none⟩,
       ⟨some 6, (.call 125 [(.t 5)] (.int .i64) []), none⟩,
       ⟨some 4, (.mv (.t 6)), none⟩])
     (.seq
      (.ops [
        ⟨some 7, (.mv (.t 4)), none⟩,
        ⟨some 8, (.bini .neq (.t 7) (.c (.int .i64 0))), none⟩])
      (.cond (.t 8)
       (.seq
        (.ops [
          ⟨some 9, (.build [(.int .u8 0), (.int .u8 0), (.float 0), (.str (bs [])), (.int .i64 0), (.int .u8 0), (.float 0), (.str (bs [])), (.int .i64 0), (.int .u8 0), (.float 0), (.str (bs [])), (.int .i64 0), (.bool false), (.bool false), (.bool false)] []), none⟩,
          ⟨some 10, (.mv (.t 4)), none⟩,
          ⟨none, (.store 16 (.t 2) (.t 9)), none⟩,
          ⟨some 3, (.mv (.t 10)), none⟩])
        .ret)
       .skip)))
    (.seq
     (.ops [
       ⟨some 11, (.load (some 16) (.t 1)), none⟩,
       ⟨some 12, (.call 135 [(.t 11)] .dsc []), none⟩,
       ⟨none, (.store 16 (.t 2) (.t 12)), none⟩,
       ⟨some 3, (.mv (.c (.int .i64 0))), none⟩])
     .ret)))
def desc_Complete.body : DC := desc_Complete.bodyX
def desc_Complete : FD := ⟨1, [.cell 2 (some 16), .tmp 3], desc_Complete.body⟩
/-- 128 bailiff/desc.IsAccess -/
def desc_IsAccess.bodyX : DC :=
  (.seq
   (.ops [
     ⟨some 1, (.box 1 (.t 0)), none⟩,
     ⟨some 2, (.mv (.c (.bool false))), none⟩])
   (.seq
    (.ops [
      ⟨some 3, (.faddr 0 (.t 1)), none⟩,
      ⟨some 4, (.load none (.t 3)), none⟩,
      ⟨some 5, (.bini .and (.t 4) (.c (.int .u8 12))), none⟩,
      ⟨some 6, (.bini .neq (.t 5) (.c (.int .u8 0))), none⟩,
      ⟨some 2, (.mv (.t 6)), none⟩])
    .ret))
def desc_IsAccess.body : DC := desc_IsAccess.bodyX
def desc_IsAccess : FD := ⟨1, [.tmp 2], desc_IsAccess.body⟩
/-- 129 bailiff/desc.IsData -/
def desc_IsData.bodyX : DC :=
  (.seq
   (.ops [
     ⟨some 1, (.box 1 (.t 0)), none⟩,
     ⟨some 2, (.mv (.c (.bool false))), none⟩])
   (.seq
    (.ops [
      ⟨some 3, (.faddr 0 (.t 1)), none⟩,
      ⟨some 4, (.load none (.t 3)), none⟩,
      ⟨some 5, (.bini .and (.t 4) (.c (.int .u8 3))), none⟩,
      ⟨some 6, (.bini .neq (.t 5) (.c (.int .u8 0))), none⟩,
      ⟨some 2, (.mv (.t 6)), none⟩])
    .ret))
def desc_IsData.body : DC := desc_IsData.bodyX
def desc_IsData : FD := ⟨1, [.tmp 2], desc_IsData.body⟩
/-- 133 bailiff/desc.called -/
def desc_called.tX0 (t0 : DC) : DC :=
  (.ops [
    ⟨some 2, (.mv (.t 13)), none⟩])
def desc_called.t0 : DC := desc_called.tX0 .skip
def desc_called.bodyX (t0 : DC) : DC :=
  (.seq
   (.ops [
     ⟨some 1, (.box 1 (.t 0)), none⟩,
     ⟨some 2, (.mv (.c (.bool false))), none⟩])
   (.seq
  (.opsc [
    ⟨some 3, (.load (some 4) (.t 1)), none⟩,
    ⟨some 4, (.call 182 [(.t 3)] .bool []), none⟩,
    ⟨some 5, (.mv (.t 4)), none⟩,
    ⟨some 6, (.faddr 0 (.t 1)), some (5, true)⟩,
    ⟨some 7, (.load none (.t 6)), some (5, true)⟩,
    ⟨some 8, (.bini .eql (.t 7) (.c (.int .u8 0))), some (5, true)⟩,
    ⟨some 9, (.mv (.t 8)), some (5, true)⟩,
    ⟨some 10, (.load (some 4) (.t 1)), some (9, false)⟩,
    ⟨some 11, (.call 180 [(.t 10)] .bool []), some (9, false)⟩,
    ⟨some 12, (.pick (.t 9) (.c (.bool true)) (.t 11)), some (5, true)⟩,
    ⟨some 13, (.pick (.t 5) (.t 12) (.c (.bool false))), none⟩] [13] [] t0)
    .ret))
def desc_called.body : DC := desc_called.bodyX desc_called.t0
def desc_called : FD := ⟨1, [.tmp 2], desc_called.body⟩
/-- 135 bailiff/desc.whole -/
def desc_whole.tX0 (t0 : DC) : DC :=
    (.seq
     (.ops [
       ⟨some 13, (.load (some 16) (.t 1)), none⟩,
       ⟨none, (.store 16 (.t 2) (.t 13)), none⟩])
     .ret)
def desc_whole.t0 : DC := desc_whole.tX0 .skip
def desc_whole.sX0 (t : DC) : DC := .kp [1, 2] [1, 2] t
def desc_whole.bodyX (t0 : DC) : DC :=
  (.seq
   (.ops [
     ⟨some 1, (.box 1 (.t 0)), none⟩,
     ⟨some 2, (.alloc 2 [(.int .u8 0), (.int .u8 0), (.float 0), (.str (bs [])), (.int .i64 0), (.int .u8 0), (.float 0), (.str (bs [])), (.int .i64 0), (.int .u8 0), (.float 0), (.str (bs [])), (.int .i64 0), (.bool false), (.bool false), (.bool false)] none), none⟩])
   (.seq
    (.seq
     (.ops [
       ⟨some 3, (.load (some 16) (.t 1)), none⟩,
       ⟨some 4, (.call 128 [(.t 3)] .bool []), none⟩])
     (.cond (.t 4)
      (.ops [
        ⟨some 5, (.faddr 0 (.t 1)), none⟩,
        ⟨some 6, (.load none (.t 5)), none⟩,
        ⟨some 7, (.bini .or (.t 6) (.c (.int .u8 60))), none⟩,
        ⟨some 8, (.faddr 0 (.t 1)), none⟩,
        ⟨none, (.store 1 (.t 8) (.t 7)), none⟩])
      (.ops [
        ⟨some 9, (.faddr 0 (.t 1)), none⟩,
        ⟨some 10, (.load none (.t 9)), none⟩,
        ⟨some 11, (.bini .or (.t 10) (.c (.int .u8 51))), none⟩,
        ⟨some 12, (.faddr 0 (.t 1)), none⟩,
        ⟨none, (.store 1 (.t 12) (.t 11)), none⟩])))
    (desc_whole.sX0 t0)))
def desc_whole.body : DC := desc_whole.bodyX desc_whole.t0
def desc_whole : FD := ⟨1, [.cell 2 (some 16)], desc_whole.body⟩
/-- 158 bailiff/key.Check -/
def key_Check.tX0 (t0 t1 : DC) : DC :=
  (.ops [
    ⟨some 12, (.mv (.t 11)), none⟩,
    ⟨some 13, (.faddr 1 (.t 1)), some (12, false)⟩,
    ⟨some 14, (.load none (.t 13)), some (12, false)⟩,
    ⟨some 15, (.bini .gtr (.t 14) (.c (.int .i64 0))), some (12, false)⟩,
    ⟨some 16, (.mv (.t 15)), some (12, false)⟩,
    ⟨some 17, (.faddr 0 (.t 1)), some (16, true)⟩,
    ⟨some 18, (.load none (.t 17)), some (16, true)⟩,
    ⟨some 19, (.bins .neq (.t 18) (.c (.str (bs [])))), some (16, true)⟩,
    ⟨some 20, (.pick (.t 16) (.t 19) (.c (.bool false))), some (12, false)⟩,
    ⟨some 21, (.pick (.t 12) (.c (.bool true)) (.t 20)), none⟩])
def key_Check.t0 : DC := key_Check.tX0 .skip .skip
def key_Check.tX1 (t0 t1 : DC) : DC :=
     (.cond (.t 21)
      (.seq
       (.ops [
         ⟨some 2, (.mv (.c (.int .i64 9))), none⟩])
       .ret)
      .skip)
def key_Check.t1 : DC := key_Check.tX1 key_Check.t0 .skip
def key_Check.sX1 (t : DC) : DC := .kp [21] [] t
def key_Check.bodyX (t0 t1 : DC) : DC :=
  (.seq
   (.ops [
     ⟨some 1, (.box 1 (.t 0)), none⟩,
     ⟨some 2, (.mv (.c (.int .i64 0))), none⟩])
   (.seq
    (.seq
  (.opsc [
    ⟨some 3, (.faddr 1 (.t 1)), none⟩,
    ⟨some 4, (.load none (.t 3)), none⟩,
    ⟨some 5, (.bini .lss (.t 4) (.c (.int .i64 0))), none⟩,
    ⟨some 6, (.mv (.t 5)), none⟩,
    ⟨some 7, (.faddr 0 (.t 1)), some (6, false)⟩,
    ⟨some 8, (.load none (.t 7)), some (6, false)⟩,
    ⟨some 9, (.len true (.t 8)), some (6, false)⟩,
    ⟨some 10, (.bini .gtr (.t 9) (.c (.int .i64 4096))), some (6, false)⟩,
    ⟨some 11, (.pick (.t 6) (.c (.bool true)) (.t 10)), none⟩] [1, 11] [1] t0)
     (key_Check.sX1 t1))
    (.seq
     (.ops [
       ⟨some 2, (.mv (.c (.int .i64 0))), none⟩])
     .ret)))
def key_Check.body : DC := key_Check.bodyX key_Check.t0 key_Check.t1
def key_Check : FD := ⟨1, [.tmp 2], key_Check.body⟩
/-- 160 bailiff/key.Of -/
def key_Of.bodyX : DC :=
  (.seq
   (.ops [
     ⟨some 2, (.alloc 2 [(.str (bs [])), (.int .i64 0)] none), none⟩])
   (.seq
    (.ops [
      ⟨some 3, (.mv (.t 0)), none⟩,
      ⟨some 4, (.build [(.str (bs [])), (.int .i64 0)] [((0, 1), (.t 3))]), none⟩,
      ⟨none, (.store 2 (.t 2) (.t 4)), none⟩])
    .ret))
def key_Of.body : DC := key_Of.bodyX
def key_Of : FD := ⟨1, [.cell 2 (some 2)], key_Of.body⟩
/-- 161 bailiff/num.May -/
def num_May.tX0 (t0 : DC) : DC :=
  (.ops [
    ⟨some 2, (.mv (.t 25)), none⟩])
def num_May.t0 : DC := num_May.tX0 .skip
def num_May.bodyX (t0 : DC) : DC :=
  (.seq
   (.ops [
     ⟨some 2, (.mv (.c (.bool false))), none⟩])
   (.seq
  (.opsc [
    ⟨some 3, (.mv (.t 0)), none⟩,
    ⟨some 4, (.mv (.t 0)), none⟩,
    ⟨some 5, (.binf .neq (.t 3) (.t 4)), none⟩,
    ⟨some 6, (.mv (.t 5)), none⟩,
    ⟨some 7, (.mv (.t 0)), some (6, false)⟩,
    ⟨some 8, (.call 213 [(.t 7)] .float []), some (6, false)⟩,
    ⟨some 9, (.mv (.t 0)), some (6, false)⟩,
    ⟨some 10, (.binf .eql (.t 8) (.t 9)), some (6, false)⟩,
    ⟨some 11, (.mv (.t 10)), some (6, false)⟩,
    ⟨some 12, (.mv (.t 0)), some (11, true)⟩,
    ⟨some 13, (.call 207 [(.t 12)] .float []), some (11, true)⟩,
    ⟨some 14, (.binf .leq (.t 13) (.c (.float 4845873199050653695))), some (11, true)⟩,
    ⟨some 15, (.pick (.t 11) (.t 14) (.c (.bool false))), some (6, false)⟩,
    ⟨some 16, (.mv (.t 15)), some (6, false)⟩,
    ⟨some 17, (.mv (.t 0)), some (16, true)⟩,
    ⟨some 18, (.binf .neq (.t 17) (.c (.float 0))), some (16, true)⟩,
    ⟨some 19, (.mv (.t 18)), some (16, true)⟩,
    ⟨some 20, (.mv (.t 0)), some (19, false)⟩,
    ⟨some 21, (.call 212 [(.t 20)] .bool []), some (19, false)⟩,
    ⟨some 22, (.not (.t 21)), some (19, false)⟩,
    ⟨some 23, (.pick (.t 19) (.c (.bool true)) (.t 22)), some (16, true)⟩,
    ⟨some 24, (.pick (.t 16) (.t 23) (.c (.bool false))), some (6, false)⟩,
    ⟨some 25, (.pick (.t 6) (.c (.bool true)) (.t 24)), none⟩] [25] [] t0)
    .ret))
def num_May.body : DC := num_May.bodyX num_May.t0
def num_May : FD := ⟨1, [.tmp 2], num_May.body⟩
/-- 163 bailiff/realm.Native -/
def realm_Native.tX0 (t0 t1 t2 t3 : DC) : DC :=
  (.ops [
    ⟨some 8, (.mv (.t 16)), none⟩])
def realm_Native.t0 : DC := realm_Native.tX0 .skip .skip .skip .skip
def realm_Native.tX1 (t0 t1 t2 t3 : DC) : DC :=
  (.ops [
    ⟨some 20, (.mv (.t 26)), none⟩])
def realm_Native.t1 : DC := realm_Native.tX1 realm_Native.t0 .skip .skip .skip
def realm_Native.tX2 (t0 t1 t2 t3 : DC) : DC :=
         (.cond (.t 20)
          (.seq
           (.ops [
             ⟨some 27, (.mv (.t 0)), none⟩,
             ⟨some 28, (.bini .sub (.t 27) (.c (.int .i64 24))), none⟩,
             ⟨some 29, (.iaddr true 48 1 (.t 5) (.t 28)), none⟩,
             ⟨some 30, (.load none (.t 29)), none⟩,
             ⟨some 2, (.mv (.t 30)), none⟩,
             ⟨some 3, (.mv (.c (.bool true))), none⟩])
           .ret)
          .skip)
def realm_Native.t2 : DC := realm_Native.tX2 realm_Native.t0 realm_Native.t1 .skip .skip
def realm_Native.sX2 (t : DC) : DC := .kp [0, 5, 20] [5] t
def realm_Native.tX3 (t0 t1 t2 t3 : DC) : DC :=
       (.cond (.t 8)
        (.seq
         (.ops [
           ⟨some 17, (.mv (.t 0)), none⟩,
           ⟨some 18, (.iaddr true 24 1 (.t 4) (.t 17)), none⟩,
           ⟨some 19, (.load none (.t 18)), none⟩,
           ⟨some 2, (.mv (.t 19)), none⟩,
           ⟨some 3, (.mv (.c (.bool true))), none⟩])
         .ret)
        (.seq
  (.opsc [
    ⟨some 21, (.mv (.t 0)), none⟩,
    ⟨some 22, (.bini .geq (.t 21) (.c (.int .i64 24))), none⟩,
    ⟨some 23, (.mv (.t 22)), none⟩,
    ⟨some 24, (.mv (.t 0)), some (23, true)⟩,
    ⟨some 25, (.bini .lss (.t 24) (.c (.int .i64 72))), some (23, true)⟩,
    ⟨some 26, (.pick (.t 23) (.t 25) (.c (.bool false))), none⟩] [0, 5, 26] [5] t1)
         (realm_Native.sX2 t2)))
def realm_Native.t3 : DC := realm_Native.tX3 realm_Native.t0 realm_Native.t1 realm_Native.t2 .skip
def realm_Native.sX3 (t : DC) : DC := .kp [0, 4, 5, 8] [4, 5] t
def realm_Native.bodyX (t0 t1 t2 t3 : DC) : DC :=
  (.seq
   (.ops [
     ⟨some 2, (.mv (.c (.str (bs [])))), none⟩,
     ⟨some 3, (.mv (.c (.bool false))), none⟩])
   (.seq
    (.ops [
      ⟨some 6, (.call 167 [] (.arr .str) []), none⟩,
      ⟨some 7, (.call 168 [] (.arr .str) []), none⟩,
      ⟨some 4, (.alloca 4 .str (List.replicate 24 (bs []))), none⟩,
      ⟨some 5, (.alloca 5 .str (List.replicate 48 (bs []))), none⟩,
      ⟨none, (.storea 24 (.t 4) (.t 6)), none⟩,
      ⟨none, (.storea 48 (.t 5) (.t 7)), none⟩])
    (.seq
     (.block 0
      (.seq
       (.seq
        (.ops [
          ⟨some 9, (.mv (.t 0)), none⟩,
          ⟨some 10, (.bini .eql (.t 9) (.c (.int .i64 1))), none⟩,
          ⟨some 8, (.mv (.t 10)), none⟩])
        (.cond (.t 8)
         .skip
  (.opsc [
    ⟨some 11, (.mv (.t 0)), none⟩,
    ⟨some 12, (.bini .geq (.t 11) (.c (.int .i64 14))), none⟩,
    ⟨some 13, (.mv (.t 12)), none⟩,
    ⟨some 14, (.mv (.t 0)), some (13, true)⟩,
    ⟨some 15, (.bini .lss (.t 14) (.c (.int .i64 24))), some (13, true)⟩,
    ⟨some 16, (.pick (.t 13) (.t 15) (.c (.bool false))), none⟩] [0, 4, 5, 16] [4, 5] t0)))
       (realm_Native.sX3 t3)))
     (.seq
      (.ops [
        ⟨some 2, (.mv (.c (.str (bs [])))), none⟩,
        ⟨some 3, (.mv (.c (.bool false))), none⟩])
      .ret))))
def realm_Native.body : DC := realm_Native.bodyX realm_Native.t0 realm_Native.t1 realm_Native.t2 realm_Native.t3
def realm_Native : FD := ⟨1, [.tmp 2, .tmp 3], realm_Native.body⟩
/-- 164 bailiff/realm.New -/
def realm_New.tX0 (t0 t1 : DC) : DC :=
         (.ops [
           ⟨some 20, (.faddr 0 (.t 3)), none⟩,
           ⟨some 21, (.load none (.t 20)), none⟩,
           ⟨some 22, (.load (some 18) (.t 5)), none⟩,
           ⟨some 23, (.bslice none .obj (List.replicate 1 (⟨0, ⟨0, 0, bs [], 0⟩, false, [], ⟨0, 0, bs [], 0⟩, ⟨0, 0, bs [], 0⟩, bs [], false, false⟩ : Obj)) [(0, (.t 22))]), none⟩,
           ⟨some 24, (.append 2120 .obj (.t 21) (.t 23)), none⟩,
           ⟨some 25, (.faddr 0 (.t 3)), none⟩,
           ⟨none, (.store 1 (.t 25) (.t 24)), none⟩])
def realm_New.t0 : DC := realm_New.tX0 .skip .skip
def realm_New.sX0 (t : DC) : DC := .kp [0, 1, 3, 5, 8] [0, 1, 3, 5, 2120] t
def realm_New.bX0 (t0 t1 : DC) : DC :=
  (.seq
   (.ops [
     ⟨some 9, (.bini .lss (.t 8) (.c (.int .i64 72))), none⟩])
   (.seq
    (.cond (.t 9)
     .skip
     (.exit 0))
    (.seq
     (.block 1
      (.seq
       (.ops [
         ⟨some 10, (.mv (.t 8)), none⟩,
         ⟨some 4, (.mv (.t 10)), none⟩])
       (.seq
        (.ops [
          ⟨some 11, (.mv (.t 4)), none⟩,
          ⟨some 12, (.call 171 [(.t 11)] .obj []), none⟩,
          ⟨some 5, (.alloc 5 [(.int .u8 0), (.int .u8 0), (.float 0), (.str (bs [])), (.int .i64 0), (.bool false), (.nsl .prp), (.int .u8 0), (.float 0), (.str (bs [])), (.int .i64 0), (.int .u8 0), (.float 0), (.str (bs [])), (.int .i64 0), (.str (bs [])), (.bool false), (.bool false)] none), none⟩,
          ⟨none, (.store 18 (.t 5) (.t 12)), none⟩])
        (.seq
         (.seq
          (.ops [
            ⟨some 13, (.mv (.t 4)), none⟩,
            ⟨some 14, (.bini .lss (.t 13) (.c (.int .i64 24))), none⟩])
          (.cond (.t 14)
           (.ops [
             ⟨some 15, (.mv (.t 4)), none⟩,
             ⟨some 16, (.iaddr true 24 1 (.t 1) (.t 15)), none⟩,
             ⟨some 17, (.load none (.t 16)), none⟩,
             ⟨some 18, (.call 174 [(.t 17)] (.lst false .prp) []), none⟩,
             ⟨some 19, (.faddr 6 (.t 5)), none⟩,
             ⟨none, (.store 1 (.t 19) (.t 18)), none⟩])
           .skip))
         (realm_New.sX0 t0)))))
     (.ops [
       ⟨some 26, (.bini .add (.t 8) (.c (.int .i64 1))), none⟩,
       ⟨some 8, (.mv (.t 26)), none⟩]))))
def realm_New.tX1 (t0 t1 : DC) : DC :=
      (.seq
       (.ops [
         ⟨some 27, (.load (some 1) (.t 3)), none⟩,
         ⟨none, (.store 1 (.t 0) (.t 27)), none⟩])
       .ret)
def realm_New.t1 : DC := realm_New.tX1 realm_New.t0 .skip
def realm_New.sX1 (t : DC) : DC := .kp [0, 3] [0, 3, 2120] t
def realm_New.bodyX (t0 t1 : DC) : DC :=
  (.seq
   (.ops [
     ⟨some 0, (.alloc 0 [(.nsl .obj)] none), none⟩])
   (.seq
    (.ops [
      ⟨some 6, (.call 167 [] (.arr .str) []), none⟩,
      ⟨some 7, (.call 168 [] (.arr .str) []), none⟩,
      ⟨some 1, (.alloca 1 .str (List.replicate 24 (bs []))), none⟩,
      ⟨some 2, (.alloca 2 .str (List.replicate 48 (bs []))), none⟩,
      ⟨none, (.storea 24 (.t 1) (.t 6)), none⟩,
      ⟨none, (.storea 48 (.t 2) (.t 7)), none⟩])
    (.seq
     (.ops [
       ⟨some 3, (.alloc 3 [(.lsl 2120)] (some (2120, .obj))), none⟩])
     (.seq
      (.seq
       (.ops [
         ⟨some 8, (.mv (.c (.int .i64 0))), none⟩])
       (.block 0
        (.loop [0, 1, 3, 8] [0, 1, 3, 2120] (realm_New.bX0 t0 t1))))
      (realm_New.sX1 t1)))))
def realm_New.body : DC := realm_New.bodyX realm_New.t0 realm_New.t1
def realm_New : FD := ⟨0, [.cell 0 (some 1)], realm_New.body⟩
/-- 165 bailiff/realm.Number -/
def realm_Number.tX0 (t0 t1 : DC) : DC :=
         (.cond (.t 22)
          (.seq
           (.ops [
             ⟨some 23, (.mv (.t 5)), none⟩,
             ⟨some 2, (.mv (.t 23)), none⟩,
             ⟨some 3, (.mv (.c (.bool true))), none⟩])
           .ret)
          .skip)
def realm_Number.t0 : DC := realm_Number.tX0 .skip .skip
def realm_Number.sX0 (t : DC) : DC := .kp [0, 5, 9, 22] [] t
def realm_Number.bX0 (t0 t1 : DC) : DC :=
  (.seq
   (.ops [
     ⟨some 10, (.bini .lss (.t 9) (.c (.int .i64 72))), none⟩])
   (.seq
    (.cond (.t 10)
     .skip
     (.exit 0))
    (.seq
     (.block 1
      (.seq
       (.ops [
         ⟨some 11, (.mv (.t 9)), none⟩,
         ⟨some 5, (.mv (.t 11)), none⟩])
       (.seq
        (.ops [
          ⟨some 13, (.mv (.t 5)), none⟩,
          ⟨some 14, (.call 163 [(.t 13)] (.p2 .str .bool) []), none⟩,
          ⟨some 12, (.mv (.t 14)), none⟩,
          ⟨some 15, (.ext (.t 12) 0), none⟩,
          ⟨some 16, (.ext (.t 12) 1), none⟩,
          ⟨some 6, (.mv (.t 15)), none⟩,
          ⟨some 7, (.mv (.t 16)), none⟩])
        (.seq
         (.ops [
           ⟨some 17, (.mv (.t 7)), none⟩,
           ⟨some 18, (.mv (.t 17)), none⟩,
           ⟨some 19, (.mv (.t 6)), some (18, true)⟩,
           ⟨some 20, (.mv (.t 0)), some (18, true)⟩,
           ⟨some 21, (.bins .eql (.t 19) (.t 20)), some (18, true)⟩,
           ⟨some 22, (.pick (.t 18) (.t 21) (.c (.bool false))), none⟩])
         (realm_Number.sX0 t0)))))
     (.ops [
       ⟨some 24, (.bini .add (.t 9) (.c (.int .i64 1))), none⟩,
       ⟨some 9, (.mv (.t 24)), none⟩]))))
def realm_Number.tX1 (t0 t1 : DC) : DC :=
     (.seq
      (.ops [
        ⟨some 2, (.mv (.c (.int .i64 0))), none⟩,
        ⟨some 3, (.mv (.c (.bool false))), none⟩])
      .ret)
def realm_Number.t1 : DC := realm_Number.tX1 realm_Number.t0 .skip
def realm_Number.sX1 (t : DC) : DC := .kp [] [] t
def realm_Number.bodyX (t0 t1 : DC) : DC :=
  (.seq
   (.ops [
     ⟨some 2, (.mv (.c (.int .i64 0))), none⟩,
     ⟨some 3, (.mv (.c (.bool false))), none⟩])
   (.seq
    (.ops [
      ⟨some 8, (.call 168 [] (.arr .str) []), none⟩,
      ⟨some 4, (.alloca 4 .str (List.replicate 48 (bs []))), none⟩,
      ⟨none, (.storea 48 (.t 4) (.t 8)), none⟩])
    (.seq
     (.seq
      (.ops [
        ⟨some 9, (.mv (.c (.int .i64 0))), none⟩])
      (.block 0
       (.loop [0, 9] [] (realm_Number.bX0 t0 t1))))
     (realm_Number.sX1 t1))))
def realm_Number.body : DC := realm_Number.bodyX realm_Number.t0 realm_Number.t1
def realm_Number : FD := ⟨1, [.tmp 2, .tmp 3], realm_Number.body⟩
/-- 167 bailiff/realm.firsts -/
def realm_firsts.bodyX : DC :=
  (.seq
   (.ops [
     ⟨some 0, (.alloca 0 .str (List.replicate 24 (bs []))), none⟩])
   (.seq
    (.ops [
      ⟨some 1, (.builda .str (List.replicate 24 (bs [])) [(0, (.c (.str (bs [79, 98, 106, 101, 99, 116, 46, 112, 114, 111, 116, 111, 116, 121, 112, 101])))), (1, (.c (.str (bs [70, 117, 110, 99, 116, 105, 111, 110, 46, 112, 114, 111, 116, 111, 116, 121, 112, 101])))), (2, (.c (.str (bs [65, 114, 114, 97, 121, 46, 112, 114, 111, 116, 111, 116, 121, 112, 101])))), (3, (.c (.str (bs [83, 116, 114, 105, 110, 103, 46, 112, 114, 111, 116, 111, 116, 121, 112, 101])))), (4, (.c (.str (bs [78, 117, 109, 98, 101, 114, 46, 112, 114, 111, 116, 111, 116, 121, 112, 101])))), (5, (.c (.str (bs [66, 111, 111, 108, 101, 97, 110, 46, 112, 114, 111, 116, 111, 116, 121, 112, 101])))), (6, (.c (.str (bs [83, 121, 109, 98, 111, 108, 46, 112, 114, 111, 116, 111, 116, 121, 112, 101])))), (7, (.c (.str (bs [69, 114, 114, 111, 114, 46, 112, 114, 111, 116, 111, 116, 121, 112, 101])))), (8, (.c (.str (bs [84, 121, 112, 101, 69, 114, 114, 111, 114, 46, 112, 114, 111, 116, 111, 116, 121, 112, 101])))), (9, (.c (.str (bs [82, 97, 110, 103, 101, 69, 114, 114, 111, 114, 46, 112, 114, 111, 116, 111, 116, 121, 112, 101])))), (10, (.c (.str (bs [82, 101, 102, 101, 114, 101, 110, 99, 101, 69, 114, 114, 111, 114, 46, 112, 114, 111, 116, 111, 116, 121, 112, 101])))), (11, (.c (.str (bs [79, 98, 106, 101, 99, 116])))), (12, (.c (.str (bs [82, 101, 102, 108, 101, 99, 116])))), (13, (.c (.str (bs [65, 114, 114, 97, 121])))), (14, (.c (.str (bs [80, 114, 111, 120, 121])))), (15, (.c (.str (bs [83, 116, 114, 105, 110, 103])))), (16, (.c (.str (bs [69, 114, 114, 111, 114])))), (17, (.c (.str (bs [84, 121, 112, 101, 69, 114, 114, 111, 114])))), (18, (.c (.str (bs [82, 97, 110, 103, 101, 69, 114, 114, 111, 114])))), (19, (.c (.str (bs [82, 101, 102, 101, 114, 101, 110, 99, 101, 69, 114, 114, 111, 114])))), (20, (.c (.str (bs [78, 117, 109, 98, 101, 114])))), (21, (.c (.str (bs [66, 111, 111, 108, 101, 97, 110])))), (22, (.c (.str (bs [83, 121, 109, 98, 111, 108])))), (23, (.c (.str (bs [112, 114, 105, 110, 116]))))]), none⟩,
      ⟨none, (.storea 24 (.t 0) (.t 1)), none⟩])
    .ret))
def realm_firsts.body : DC := realm_firsts.bodyX
def realm_firsts : FD := ⟨0, [.cella 0 24], realm_firsts.body⟩
/-- 168 bailiff/realm.functions -/
def realm_functions.bodyX : DC :=
  (.seq
   (.ops [
     ⟨some 0, (.alloca 0 .str (List.replicate 48 (bs []))), none⟩])
   (.seq
    (.ops [
      ⟨some 1, (.builda .str (List.replicate 48 (bs [])) [(0, (.c (.str (bs [79, 98, 106, 101, 99, 116, 46, 97, 115, 115, 105, 103, 110])))), (1, (.c (.str (bs [79, 98, 106, 101, 99, 116, 46, 99, 114, 101, 97, 116, 101])))), (2, (.c (.str (bs [79, 98, 106, 101, 99, 116, 46, 100, 101, 102, 105, 110, 101, 80, 114, 111, 112, 101, 114, 116, 121])))), (3, (.c (.str (bs [79, 98, 106, 101, 99, 116, 46, 102, 114, 101, 101, 122, 101])))), (4, (.c (.str (bs [79, 98, 106, 101, 99, 116, 46, 103, 101, 116, 79, 119, 110, 80, 114, 111, 112, 101, 114, 116, 121, 68, 101, 115, 99, 114, 105, 112, 116, 111, 114])))), (5, (.c (.str (bs [79, 98, 106, 101, 99, 116, 46, 103, 101, 116, 79, 119, 110, 80, 114, 111, 112, 101, 114, 116, 121, 78, 97, 109, 101, 115])))), (6, (.c (.str (bs [79, 98, 106, 101, 99, 116, 46, 103, 101, 116, 79, 119, 110, 80, 114, 111, 112, 101, 114, 116, 121, 83, 121, 109, 98, 111, 108, 115])))), (7, (.c (.str (bs [79, 98, 106, 101, 99, 116, 46, 103, 101, 116, 80, 114, 111, 116, 111, 116, 121, 112, 101, 79, 102])))), (8, (.c (.str (bs [79, 98, 106, 101, 99, 116, 46, 105, 115])))), (9, (.c (.str (bs [79, 98, 106, 101, 99, 116, 46, 105, 115, 69, 120, 116, 101, 110, 115, 105, 98, 108, 101])))), (10, (.c (.str (bs [79, 98, 106, 101, 99, 116, 46, 105, 115, 70, 114, 111, 122, 101, 110])))), (11, (.c (.str (bs [79, 98, 106, 101, 99, 116, 46, 105, 115, 83, 101, 97, 108, 101, 100])))), (12, (.c (.str (bs [79, 98, 106, 101, 99, 116, 46, 107, 101, 121, 115])))), (13, (.c (.str (bs [79, 98, 106, 101, 99, 116, 46, 112, 114, 101, 118, 101, 110, 116, 69, 120, 116, 101, 110, 115, 105, 111, 110, 115])))), (14, (.c (.str (bs [79, 98, 106, 101, 99, 116, 46, 115, 101, 97, 108])))), (15, (.c (.str (bs [79, 98, 106, 101, 99, 116, 46, 115, 101, 116, 80, 114, 111, 116, 111, 116, 121, 112, 101, 79, 102])))), (16, (.c (.str (bs [82, 101, 102, 108, 101, 99, 116, 46, 97, 112, 112, 108, 121])))), (17, (.c (.str (bs [82, 101, 102, 108, 101, 99, 116, 46, 99, 111, 110, 115, 116, 114, 117, 99, 116])))), (18, (.c (.str (bs [82, 101, 102, 108, 101, 99, 116, 46, 100, 101, 102, 105, 110, 101, 80, 114, 111, 112, 101, 114, 116, 121])))), (19, (.c (.str (bs [82, 101, 102, 108, 101, 99, 116, 46, 100, 101, 108, 101, 116, 101, 80, 114, 111, 112, 101, 114, 116, 121])))), (20, (.c (.str (bs [82, 101, 102, 108, 101, 99, 116, 46, 103, 101, 116])))), (21, (.c (.str (bs [82, 101, 102, 108, 101, 99, 116, 46, 103, 101, 116, 79, 119, 110, 80, 114, 111, 112, 101, 114, 116, 121, 68, 101, 115, 99, 114, 105, 112, 116, 111, 114])))), (22, (.c (.str (bs [82, 101, 102, 108, 101, 99, 116, 46, 103, 101, 116, 80, 114, 111, 116, 111, 116, 121, 112, 101, 79, 102])))), (23, (.c (.str (bs [82, 101, 102, 108, 101, 99, 116, 46, 104, 97, 115])))), (24, (.c (.str (bs [82, 101, 102, 108, 101, 99, 116, 46, 105, 115, 69, 120, 116, 101, 110, 115, 105, 98, 108, 101])))), (25, (.c (.str (bs [82, 101, 102, 108, 101, 99, 116, 46, 111, 119, 110, 75, 101, 121, 115])))), (26, (.c (.str (bs [82, 101, 102, 108, 101, 99, 116, 46, 112, 114, 101, 118, 101, 110, 116, 69, 120, 116, 101, 110, 115, 105, 111, 110, 115])))), (27, (.c (.str (bs [82, 101, 102, 108, 101, 99, 116, 46, 115, 101, 116])))), (28, (.c (.str (bs [82, 101, 102, 108, 101, 99, 116, 46, 115, 101, 116, 80, 114, 111, 116, 111, 116, 121, 112, 101, 79, 102])))), (29, (.c (.str (bs [80, 114, 111, 120, 121, 46, 114, 101, 118, 111, 99, 97, 98, 108, 101])))), (30, (.c (.str (bs [65, 114, 114, 97, 121, 46, 105, 115, 65, 114, 114, 97, 121])))), (31, (.c (.str (bs [79, 98, 106, 101, 99, 116, 46, 112, 114, 111, 116, 111, 116, 121, 112, 101, 46, 104, 97, 115, 79, 119, 110, 80, 114, 111, 112, 101, 114, 116, 121])))), (32, (.c (.str (bs [79, 98, 106, 101, 99, 116, 46, 112, 114, 111, 116, 111, 116, 121, 112, 101, 46, 116, 111, 83, 116, 114, 105, 110, 103])))), (33, (.c (.str (bs [79, 98, 106, 101, 99, 116, 46, 112, 114, 111, 116, 111, 116, 121, 112, 101, 46, 118, 97, 108, 117, 101, 79, 102])))), (34, (.c (.str (bs [70, 117, 110, 99, 116, 105, 111, 110, 46, 112, 114, 111, 116, 111, 116, 121, 112, 101, 46, 97, 112, 112, 108, 121])))), (35, (.c (.str (bs [70, 117, 110, 99, 116, 105, 111, 110, 46, 112, 114, 111, 116, 111, 116, 121, 112, 101, 46, 99, 97, 108, 108])))), (36, (.c (.str (bs [65, 114, 114, 97, 121, 46, 112, 114, 111, 116, 111, 116, 121, 112, 101, 46, 112, 117, 115, 104])))), (37, (.c (.str (bs [83, 116, 114, 105, 110, 103, 46, 112, 114, 111, 116, 111, 116, 121, 112, 101, 46, 105, 110, 100, 101, 120, 79, 102])))), (38, (.c (.str (bs [83, 116, 114, 105, 110, 103, 46, 112, 114, 111, 116, 111, 116, 121, 112, 101, 46, 115, 108, 105, 99, 101])))), (39, (.c (.str (bs [83, 116, 114, 105, 110, 103, 46, 112, 114, 111, 116, 111, 116, 121, 112, 101, 46, 116, 111, 83, 116, 114, 105, 110, 103])))), (40, (.c (.str (bs [83, 116, 114, 105, 110, 103, 46, 112, 114, 111, 116, 111, 116, 121, 112, 101, 46, 118, 97, 108, 117, 101, 79, 102])))), (41, (.c (.str (bs [78, 117, 109, 98, 101, 114, 46, 112, 114, 111, 116, 111, 116, 121, 112, 101, 46, 116, 111, 83, 116, 114, 105, 110, 103])))), (42, (.c (.str (bs [78, 117, 109, 98, 101, 114, 46, 112, 114, 111, 116, 111, 116, 121, 112, 101, 46, 118, 97, 108, 117, 101, 79, 102])))), (43, (.c (.str (bs [66, 111, 111, 108, 101, 97, 110, 46, 112, 114, 111, 116, 111, 116, 121, 112, 101, 46, 116, 111, 83, 116, 114, 105, 110, 103])))), (44, (.c (.str (bs [66, 111, 111, 108, 101, 97, 110, 46, 112, 114, 111, 116, 111, 116, 121, 112, 101, 46, 118, 97, 108, 117, 101, 79, 102])))), (45, (.c (.str (bs [83, 121, 109, 98, 111, 108, 46, 112, 114, 111, 116, 111, 116, 121, 112, 101, 46, 116, 111, 83, 116, 114, 105, 110, 103])))), (46, (.c (.str (bs [83, 121, 109, 98, 111, 108, 46, 112, 114, 111, 116, 111, 116, 121, 112, 101, 46, 118, 97, 108, 117, 101, 79, 102])))), (47, (.c (.str (bs [69, 114, 114, 111, 114, 46, 112, 114, 111, 116, 111, 116, 121, 112, 101, 46, 116, 111, 83, 116, 114, 105, 110, 103]))))]), none⟩,
      ⟨none, (.storea 48 (.t 0) (.t 1)), none⟩])
    .ret))
def realm_functions.body : DC := realm_functions.bodyX
def realm_functions : FD := ⟨0, [.cella 0 48], realm_functions.body⟩
/-- 169 bailiff/realm.hidden -/
def realm_hidden.bodyX : DC :=
  (.seq
   (.ops [
     ⟨some 4, (.box 4 (.t 1)), none⟩,
     ⟨some 6, (.alloc 6 [(.str (bs [])), (.int .i64 0), (.int .u8 0), (.int .u8 0), (.float 0), (.str (bs [])), (.int .i64 0), (.int .u8 0), (.float 0), (.str (bs [])), (.int .i64 0), (.int .u8 0), (.float 0), (.str (bs [])), (.int .i64 0), (.bool false), (.bool false), (.bool false)] none), none⟩])
   (.seq
    (.draw [
      ⟨some 7, (.mv (.t 0)), none⟩,
      ⟨some 8, (.call 160 [(.t 7)] .key []), none⟩,
      ⟨some 9, (.load (some 4) (.t 4)), none⟩,
      ⟨some 10, (.mv (.t 2)), none⟩,
      ⟨some 11, (.not (.t 10)), none⟩,
      ⟨some 12, (.mv (.t 2)), none⟩,
      ⟨some 13, (.not (.t 12)), none⟩,
      ⟨some 14, (.build [(.int .u8 0), (.int .u8 0), (.float 0), (.str (bs [])), (.int .i64 0), (.int .u8 0), (.float 0), (.str (bs [])), (.int .i64 0), (.int .u8 0), (.float 0), (.str (bs [])), (.int .i64 0), (.bool false), (.bool false), (.bool false)] [((0, 1), (.c (.int .u8 51))), ((1, 4), (.t 9)), ((13, 1), (.t 11)), ((15, 1), (.t 13))]), none⟩,
      ⟨some 15, (.build [(.str (bs [])), (.int .i64 0), (.int .u8 0), (.int .u8 0), (.float 0), (.str (bs [])), (.int .i64 0), (.int .u8 0), (.float 0), (.str (bs [])), (.int .i64 0), (.int .u8 0), (.float 0), (.str (bs [])), (.int .i64 0), (.bool false), (.bool false), (.bool false)] [((0, 2), (.t 8)), ((2, 16), (.t 14))]), none⟩,
      ⟨none, (.store 18 (.t 6) (.t 15)), none⟩] [[], [0], [], [], [3], [], [5], [2, 3, 4, 5, 6], [0, 1, 2, 3, 4, 5, 6, 7], [0, 1, 2, 3, 4, 5, 6, 7, 8]])
    .ret))
def realm_hidden.body : DC := realm_hidden.bodyX
def realm_hidden : FD := ⟨3, [.cell 6 (some 18)], realm_hidden.body⟩
/-- 170 bailiff/realm.kind -/
def realm_kind.tX0 (t0 t1 t2 t3 : DC) : DC :=
  (.ops [
    ⟨some 3, (.mv (.t 9)), none⟩])
def realm_kind.t0 : DC := realm_kind.tX0 .skip .skip .skip .skip
def realm_kind.tX1 (t0 t1 t2 t3 : DC) : DC :=
  (.ops [
    ⟨some 10, (.mv (.t 16)), none⟩])
def realm_kind.t1 : DC := realm_kind.tX1 realm_kind.t0 .skip .skip .skip
def realm_kind.tX2 (t0 t1 t2 t3 : DC) : DC :=
        (.cond (.t 10)
         (.seq
          (.ops [
            ⟨some 2, (.mv (.c (.int .u8 7))), none⟩])
          .ret)
         .skip)
def realm_kind.t2 : DC := realm_kind.tX2 realm_kind.t0 realm_kind.t1 .skip .skip
def realm_kind.sX2 (t : DC) : DC := .kp [10] [] t
def realm_kind.tX3 (t0 t1 t2 t3 : DC) : DC :=
      (.cond (.t 3)
       (.seq
        (.ops [
          ⟨some 2, (.mv (.c (.int .u8 8))), none⟩])
        .ret)
       (.seq
  (.opsc [
    ⟨some 11, (.mv (.t 0)), none⟩,
    ⟨some 12, (.bini .eql (.t 11) (.c (.int .i64 1))), none⟩,
    ⟨some 13, (.mv (.t 12)), none⟩,
    ⟨some 14, (.mv (.t 0)), some (13, false)⟩,
    ⟨some 15, (.bini .geq (.t 14) (.c (.int .i64 20))), some (13, false)⟩,
    ⟨some 16, (.pick (.t 13) (.c (.bool true)) (.t 15)), none⟩] [16] [] t1)
        (realm_kind.sX2 t2)))
def realm_kind.t3 : DC := realm_kind.tX3 realm_kind.t0 realm_kind.t1 realm_kind.t2 .skip
def realm_kind.sX3 (t : DC) : DC := .kp [0, 3] [] t
def realm_kind.bodyX (t0 t1 t2 t3 : DC) : DC :=
  (.seq
   (.ops [
     ⟨some 2, (.mv (.c (.int .u8 0))), none⟩])
   (.seq
    (.block 0
     (.seq
  (.opsc [
    ⟨some 4, (.mv (.t 0)), none⟩,
    ⟨some 5, (.bini .geq (.t 4) (.c (.int .i64 14))), none⟩,
    ⟨some 6, (.mv (.t 5)), none⟩,
    ⟨some 7, (.mv (.t 0)), some (6, true)⟩,
    ⟨some 8, (.bini .lss (.t 7) (.c (.int .i64 20))), some (6, true)⟩,
    ⟨some 9, (.pick (.t 6) (.t 8) (.c (.bool false))), none⟩] [0, 9] [] t0)
      (realm_kind.sX3 t3)))
    (.seq
     (.ops [
       ⟨some 2, (.mv (.c (.int .u8 6))), none⟩])
     .ret)))
def realm_kind.body : DC := realm_kind.bodyX realm_kind.t0 realm_kind.t1 realm_kind.t2 realm_kind.t3
def realm_kind : FD := ⟨1, [.tmp 2], realm_kind.body⟩
/-- 171 bailiff/realm.made -/
def realm_made.tX0 (t0 t1 t2 : DC) : DC :=
  (.ops [
    ⟨some 15, (.mv (.t 21)), none⟩])
def realm_made.t0 : DC := realm_made.tX0 .skip .skip .skip
def realm_made.tX1 (t0 t1 t2 : DC) : DC :=
           (.cond (.t 15)
            (.ops [
              ⟨some 22, (.call 172 [(.c (.int .i64 7))] .val []), none⟩,
              ⟨some 23, (.faddr 1 (.t 3)), none⟩,
              ⟨none, (.store 4 (.t 23) (.t 22)), none⟩])
            (.seq
             (.ops [
               ⟨some 25, (.mv (.t 0)), none⟩,
               ⟨some 26, (.bini .geq (.t 25) (.c (.int .i64 14))), none⟩,
               ⟨some 24, (.mv (.t 26)), none⟩])
             (.cond (.t 24)
              (.seq
               (.ops [
                 ⟨some 27, (.faddr 0 (.t 3)), none⟩,
                 ⟨none, (.store 1 (.t 27) (.c (.int .u8 5))), none⟩])
               (.ops [
                 ⟨some 28, (.call 172 [(.c (.int .i64 1))] .val []), none⟩,
                 ⟨some 29, (.faddr 1 (.t 3)), none⟩,
                 ⟨none, (.store 4 (.t 29) (.t 28)), none⟩]))
              .skip)))
def realm_made.t1 : DC := realm_made.tX1 realm_made.t0 .skip .skip
def realm_made.sX1 (t : DC) : DC := .kp [0, 2, 3, 15] [2, 3] t
def realm_made.tX2 (t0 t1 t2 : DC) : DC :=
     (.seq
      (.ops [
        ⟨some 30, (.mv (.t 0)), none⟩,
        ⟨some 31, (.call 170 [(.t 30)] (.int .u8) []), none⟩,
        ⟨some 32, (.bini .neq (.t 31) (.c (.int .u8 6))), none⟩,
        ⟨some 33, (.faddr 16 (.t 3)), none⟩,
        ⟨none, (.store 1 (.t 33) (.t 32)), none⟩])
      (.seq
       (.ops [
         ⟨some 34, (.mv (.t 0)), none⟩,
         ⟨some 35, (.call 170 [(.t 34)] (.int .u8) []), none⟩,
         ⟨some 36, (.bini .eql (.t 35) (.c (.int .u8 8))), none⟩,
         ⟨some 37, (.faddr 17 (.t 3)), none⟩,
         ⟨none, (.store 1 (.t 37) (.t 36)), none⟩])
       (.seq
        (.ops [
          ⟨some 38, (.load (some 18) (.t 3)), none⟩,
          ⟨none, (.store 18 (.t 2) (.t 38)), none⟩])
        .ret)))
def realm_made.t2 : DC := realm_made.tX2 realm_made.t0 realm_made.t1 .skip
def realm_made.sX2 (t : DC) : DC := .kp [0, 2, 3] [2, 3] t
def realm_made.bodyX (t0 t1 t2 : DC) : DC :=
  (.seq
   (.ops [
     ⟨some 2, (.alloc 2 [(.int .u8 0), (.int .u8 0), (.float 0), (.str (bs [])), (.int .i64 0), (.bool false), (.nsl .prp), (.int .u8 0), (.float 0), (.str (bs [])), (.int .i64 0), (.int .u8 0), (.float 0), (.str (bs [])), (.int .i64 0), (.str (bs [])), (.bool false), (.bool false)] none), none⟩])
   (.seq
    (.ops [
      ⟨some 4, (.call 172 [(.c (.int .i64 0))] .val []), none⟩,
      ⟨some 5, (.build [(.int .u8 0), (.int .u8 0), (.float 0), (.str (bs [])), (.int .i64 0), (.bool false), (.nsl .prp), (.int .u8 0), (.float 0), (.str (bs [])), (.int .i64 0), (.int .u8 0), (.float 0), (.str (bs [])), (.int .i64 0), (.str (bs [])), (.bool false), (.bool false)] [((0, 1), (.c (.int .u8 1))), ((1, 4), (.t 4)), ((5, 1), (.c (.bool true)))]), none⟩,
      ⟨some 3, (.alloc 3 [(.int .u8 0), (.int .u8 0), (.float 0), (.str (bs [])), (.int .i64 0), (.bool false), (.nsl .prp), (.int .u8 0), (.float 0), (.str (bs [])), (.int .i64 0), (.int .u8 0), (.float 0), (.str (bs [])), (.int .i64 0), (.str (bs [])), (.bool false), (.bool false)] none), none⟩,
      ⟨none, (.store 18 (.t 3) (.t 5)), none⟩])
    (.seq
     (.block 0
      (.seq
       (.ops [
         ⟨some 7, (.mv (.t 0)), none⟩,
         ⟨some 8, (.bini .eql (.t 7) (.c (.int .i64 0))), none⟩,
         ⟨some 6, (.mv (.t 8)), none⟩])
       (.cond (.t 6)
        (.ops [
          ⟨some 9, (.build [(.int .u8 0), (.float 0), (.str (bs [])), (.int .i64 0)] [((0, 1), (.c (.int .u8 1)))]), none⟩,
          ⟨some 10, (.faddr 1 (.t 3)), none⟩,
          ⟨none, (.store 4 (.t 10) (.t 9)), none⟩])
        (.seq
         (.ops [
           ⟨some 12, (.mv (.t 0)), none⟩,
           ⟨some 13, (.bini .eql (.t 12) (.c (.int .i64 1))), none⟩,
           ⟨some 11, (.mv (.t 13)), none⟩])
         (.cond (.t 11)
          (.ops [
            ⟨some 14, (.faddr 0 (.t 3)), none⟩,
            ⟨none, (.store 1 (.t 14) (.c (.int .u8 5))), none⟩])
          (.seq
  (.opsc [
    ⟨some 16, (.mv (.t 0)), none⟩,
    ⟨some 17, (.bini .geq (.t 16) (.c (.int .i64 8))), none⟩,
    ⟨some 18, (.mv (.t 17)), none⟩,
    ⟨some 19, (.mv (.t 0)), some (18, true)⟩,
    ⟨some 20, (.bini .leq (.t 19) (.c (.int .i64 10))), some (18, true)⟩,
    ⟨some 21, (.pick (.t 18) (.t 20) (.c (.bool false))), none⟩] [0, 2, 3, 21] [2, 3] t0)
           (realm_made.sX1 t1)))))))
     (realm_made.sX2 t2))))
def realm_made.body : DC := realm_made.bodyX realm_made.t0 realm_made.t1 realm_made.t2
def realm_made : FD := ⟨1, [.cell 2 (some 18)], realm_made.body⟩
/-- 172 bailiff/realm.object -/
def realm_object.bodyX : DC :=
  (.seq
   (.ops [
     ⟨some 2, (.alloc 2 [(.int .u8 0), (.float 0), (.str (bs [])), (.int .i64 0)] none), none⟩])
   (.seq
    (.ops [
      ⟨some 3, (.mv (.t 0)), none⟩,
      ⟨some 4, (.call 170 [(.t 3)] (.int .u8) []), none⟩,
      ⟨some 5, (.mv (.t 0)), none⟩,
      ⟨some 6, (.build [(.int .u8 0), (.float 0), (.str (bs [])), (.int .i64 0)] [((0, 1), (.t 4)), ((3, 1), (.t 5))]), none⟩,
      ⟨none, (.store 4 (.t 2) (.t 6)), none⟩])
    .ret))
def realm_object.body : DC := realm_object.bodyX
def realm_object : FD := ⟨1, [.cell 2 (some 4)], realm_object.body⟩
/-- 173 bailiff/realm.place -/
def realm_place.bX0 (t0 : DC) : DC :=
  (.seq
   (.ops [
     ⟨some 7, (.bini .lss (.t 6) (.c (.int .i64 24))), none⟩])
   (.seq
    (.cond (.t 7)
     .skip
     (.exit 0))
    (.seq
     (.block 1
      (.seq
       (.ops [
         ⟨some 8, (.mv (.t 6)), none⟩,
         ⟨some 4, (.mv (.t 8)), none⟩])
       (.seq
        (.ops [
          ⟨some 9, (.mv (.t 4)), none⟩,
          ⟨some 10, (.iaddr true 24 1 (.t 3) (.t 9)), none⟩,
          ⟨some 11, (.load none (.t 10)), none⟩,
          ⟨some 12, (.mv (.t 0)), none⟩,
          ⟨some 13, (.bins .eql (.t 11) (.t 12)), none⟩])
        (.cond (.t 13)
         (.seq
          (.ops [
            ⟨some 14, (.mv (.t 4)), none⟩,
            ⟨some 2, (.mv (.t 14)), none⟩])
          .ret)
         .skip))))
     (.ops [
       ⟨some 15, (.bini .add (.t 6) (.c (.int .i64 1))), none⟩,
       ⟨some 6, (.mv (.t 15)), none⟩]))))
def realm_place.tX0 (t0 : DC) : DC :=
     (.seq
      (.ops [
        ⟨some 2, (.mv (.c (.int .i64 (-1)))), none⟩])
      .ret)
def realm_place.t0 : DC := realm_place.tX0 .skip
def realm_place.sX0 (t : DC) : DC := .kp [] [] t
def realm_place.bodyX (t0 : DC) : DC :=
  (.seq
   (.ops [
     ⟨some 2, (.mv (.c (.int .i64 0))), none⟩])
   (.seq
    (.ops [
      ⟨some 5, (.call 167 [] (.arr .str) []), none⟩,
      ⟨some 3, (.alloca 3 .str (List.replicate 24 (bs []))), none⟩,
      ⟨none, (.storea 24 (.t 3) (.t 5)), none⟩])
    (.seq
     (.seq
      (.ops [
        ⟨some 6, (.mv (.c (.int .i64 0))), none⟩])
      (.block 0
       (.loop [0, 3, 6] [3] (realm_place.bX0 t0))))
     (realm_place.sX0 t0))))
def realm_place.body : DC := realm_place.bodyX realm_place.t0
def realm_place : FD := ⟨1, [.tmp 2], realm_place.body⟩
/-- 174 bailiff/realm.props -/
def realm_props.tX0 (t0 t1 t2 t3 t4 t5 t6 t7 t8 t9 : DC) : DC :=
  (.ops [
    ⟨some 7, (.mv (.t 23)), none⟩])
def realm_props.t0 : DC := realm_props.tX0 .skip .skip .skip .skip .skip .skip .skip .skip .skip .skip
def realm_props.tX1 (t0 t1 t2 t3 t4 t5 t6 t7 t8 t9 : DC) : DC :=
          (.cond (.t 35)
           (.ops [
             ⟨some 36, (.mv (.t 3)), none⟩,
             ⟨some 37, (.mv (.t 4)), none⟩,
             ⟨some 38, (.call 185 [(.t 37)] .val []), none⟩,
             ⟨some 39, (.call 169 [(.c (.str (bs [110, 97, 109, 101]))), (.t 38), (.c (.bool false))] .prp []), none⟩,
             ⟨some 40, (.call 185 [(.c (.str (bs [])))] .val []), none⟩,
             ⟨some 41, (.call 169 [(.c (.str (bs [109, 101, 115, 115, 97, 103, 101]))), (.t 40), (.c (.bool false))] .prp []), none⟩,
             ⟨some 42, (.bslice none .prp (List.replicate 2 (⟨⟨bs [], 0⟩, ⟨0, ⟨0, 0, bs [], 0⟩, ⟨0, 0, bs [], 0⟩, ⟨0, 0, bs [], 0⟩, false, false, false⟩⟩ : Prp)) [(0, (.t 39)), (1, (.t 41))]), none⟩,
             ⟨some 43, (.append 1003 .prp (.t 36) (.t 42)), none⟩,
             ⟨some 3, (.mv (.t 43)), none⟩])
           .skip)
def realm_props.t1 : DC := realm_props.tX1 realm_props.t0 .skip .skip .skip .skip .skip .skip .skip .skip .skip
def realm_props.sX1 (t : DC) : DC := .kp [0, 3, 4, 35] [1003] t
def realm_props.tX2 (t0 t1 t2 t3 t4 t5 t6 t7 t8 t9 : DC) : DC :=
            (.cond (.t 53)
             (.ops [
               ⟨some 54, (.mv (.t 3)), none⟩,
               ⟨some 55, (.mv (.t 8)), none⟩,
               ⟨some 56, (.call 172 [(.t 55)] .val []), none⟩,
               ⟨some 57, (.call 169 [(.c (.str (bs [112, 114, 111, 116, 111, 116, 121, 112, 101]))), (.t 56), (.c (.bool true))] .prp []), none⟩,
               ⟨some 58, (.bslice none .prp (List.replicate 1 (⟨⟨bs [], 0⟩, ⟨0, ⟨0, 0, bs [], 0⟩, ⟨0, 0, bs [], 0⟩, ⟨0, 0, bs [], 0⟩, false, false, false⟩⟩ : Prp)) [(0, (.t 57))]), none⟩,
               ⟨some 59, (.append 1003 .prp (.t 54) (.t 58)), none⟩,
               ⟨some 3, (.mv (.t 59)), none⟩])
             .skip)
def realm_props.t2 : DC := realm_props.tX2 realm_props.t0 realm_props.t1 .skip .skip .skip .skip .skip .skip .skip .skip
def realm_props.sX2 (t : DC) : DC := .kp [0, 3, 8, 53] [1003] t
def realm_props.tX3 (t0 t1 t2 t3 t4 t5 t6 t7 t8 t9 : DC) : DC :=
     (.ops [
       ⟨some 95, (.bini .add (.t 68) (.c (.int .i64 1))), none⟩,
       ⟨some 68, (.mv (.t 95)), none⟩])
def realm_props.t3 : DC := realm_props.tX3 realm_props.t0 realm_props.t1 realm_props.t2 .skip .skip .skip .skip .skip .skip .skip
def realm_props.sX3 (t : DC) : DC := .kp [0, 3, 9, 68] [9, 1003] t
def realm_props.bX0 (t0 t1 t2 t3 t4 t5 t6 t7 t8 t9 : DC) : DC :=
  (.seq
   (.ops [
     ⟨some 69, (.bini .lss (.t 68) (.c (.int .i64 48))), none⟩])
   (.seq
    (.cond (.t 69)
     .skip
     (.exit 0))
    (.seq
     (.block 1
      (.seq
       (.ops [
         ⟨some 70, (.mv (.t 68)), none⟩,
         ⟨some 10, (.mv (.t 70)), none⟩])
       (.seq
        (.ops [
          ⟨some 71, (.mv (.t 10)), none⟩,
          ⟨some 72, (.iaddr true 48 1 (.t 9) (.t 71)), none⟩,
          ⟨some 73, (.load none (.t 72)), none⟩,
          ⟨some 74, (.call 223 [(.t 73), (.c (.int .u8 46))] (.int .i64) []), none⟩,
          ⟨some 11, (.mv (.t 74)), none⟩])
        (.seq
         (.ops [
           ⟨some 75, (.mv (.t 10)), none⟩,
           ⟨some 76, (.iaddr true 48 1 (.t 9) (.t 75)), none⟩,
           ⟨some 77, (.load none (.t 76)), none⟩,
           ⟨some 78, (.mv (.t 11)), none⟩,
           ⟨some 79, (.sstr (.t 77) none (some (.t 78))), none⟩,
           ⟨some 80, (.mv (.t 0)), none⟩,
           ⟨some 81, (.bins .eql (.t 79) (.t 80)), none⟩])
         (.cond (.t 81)
          (.draw [
            ⟨some 82, (.mv (.t 3)), none⟩,
            ⟨some 83, (.mv (.t 10)), none⟩,
            ⟨some 84, (.iaddr true 48 1 (.t 9) (.t 83)), none⟩,
            ⟨some 85, (.load none (.t 84)), none⟩,
            ⟨some 86, (.mv (.t 11)), none⟩,
            ⟨some 87, (.bini .add (.t 86) (.c (.int .i64 1))), none⟩,
            ⟨some 88, (.sstr (.t 85) (some (.t 87)) none), none⟩,
            ⟨some 89, (.mv (.t 10)), none⟩,
            ⟨some 90, (.bini .add (.c (.int .i64 24)) (.t 89)), none⟩,
            ⟨some 91, (.call 172 [(.t 90)] .val []), none⟩,
            ⟨some 92, (.call 169 [(.t 88), (.t 91), (.c (.bool false))] .prp []), none⟩,
            ⟨some 93, (.bslice none .prp (List.replicate 1 (⟨⟨bs [], 0⟩, ⟨0, ⟨0, 0, bs [], 0⟩, ⟨0, 0, bs [], 0⟩, ⟨0, 0, bs [], 0⟩, false, false, false⟩⟩ : Prp)) [(0, (.t 92))]), none⟩,
            ⟨some 94, (.append 1003 .prp (.t 82) (.t 93)), none⟩,
            ⟨some 3, (.mv (.t 94)), none⟩] [[], [], [1], [1, 2], [], [4], [1, 2, 3, 4, 5], [], [7], [7, 8], [1, 2, 3, 4, 5, 6, 7, 8, 9], [1, 2, 3, 4, 5, 6, 7, 8, 9, 10], [0, 1, 2, 3, 4, 5, 6, 7, 8, 9, 10, 11], [0, 1, 2, 3, 4, 5, 6, 7, 8, 9, 10, 11, 12]])
          .skip)))))
     (realm_props.sX3 t3))))
def realm_props.tX4 (t0 t1 t2 t3 t4 t5 t6 t7 t8 t9 : DC) : DC :=
             (.seq
              (.ops [
                ⟨some 96, (.mv (.t 3)), none⟩,
                ⟨some 2, (.mv (.t 96)), none⟩])
              .ret)
def realm_props.t4 : DC := realm_props.tX4 realm_props.t0 realm_props.t1 realm_props.t2 realm_props.t3 .skip .skip .skip .skip .skip .skip
def realm_props.sX4 (t : DC) : DC := .kp [3] [1003] t
def realm_props.tX5 (t0 t1 t2 t3 t4 t5 t6 t7 t8 t9 : DC) : DC :=
           (.seq
            (.ops [
              ⟨some 67, (.call 168 [] (.arr .str) []), none⟩,
              ⟨some 9, (.alloca 9 .str (List.replicate 48 (bs []))), none⟩,
              ⟨none, (.storea 48 (.t 9) (.t 67)), none⟩])
            (.seq
             (.seq
              (.ops [
                ⟨some 68, (.mv (.c (.int .i64 0))), none⟩])
              (.block 0
               (.loop [0, 3, 9, 68] [9, 1003] (realm_props.bX0 t0 t1 t2 t3 t4 t5 t6 t7 t8 t9))))
             (realm_props.sX4 t4)))
def realm_props.t5 : DC := realm_props.tX5 realm_props.t0 realm_props.t1 realm_props.t2 realm_props.t3 realm_props.t4 .skip .skip .skip .skip .skip
def realm_props.sX5 (t : DC) : DC := .kp [0, 3] [1003] t
def realm_props.tX6 (t0 t1 t2 t3 t4 t5 t6 t7 t8 t9 : DC) : DC :=
          (.seq
           (.seq
            (.ops [
              ⟨some 60, (.mv (.t 0)), none⟩,
              ⟨some 61, (.bins .eql (.t 60) (.c (.str (bs [83, 121, 109, 98, 111, 108])))), none⟩])
            (.cond (.t 61)
             (.ops [
               ⟨some 62, (.mv (.t 3)), none⟩,
               ⟨some 63, (.build [(.int .u8 0), (.float 0), (.str (bs [])), (.int .i64 0)] [((0, 1), (.c (.int .u8 5)))]), none⟩,
               ⟨some 64, (.call 169 [(.c (.str (bs [116, 111, 80, 114, 105, 109, 105, 116, 105, 118, 101]))), (.t 63), (.c (.bool true))] .prp []), none⟩,
               ⟨some 65, (.bslice none .prp (List.replicate 1 (⟨⟨bs [], 0⟩, ⟨0, ⟨0, 0, bs [], 0⟩, ⟨0, 0, bs [], 0⟩, ⟨0, 0, bs [], 0⟩, false, false, false⟩⟩ : Prp)) [(0, (.t 64))]), none⟩,
               ⟨some 66, (.append 1003 .prp (.t 62) (.t 65)), none⟩,
               ⟨some 3, (.mv (.t 66)), none⟩])
             .skip))
           (realm_props.sX5 t5))
def realm_props.t6 : DC := realm_props.tX6 realm_props.t0 realm_props.t1 realm_props.t2 realm_props.t3 realm_props.t4 realm_props.t5 .skip .skip .skip .skip
def realm_props.sX6 (t : DC) : DC := .kp [0, 3] [1003] t
def realm_props.tX7 (t0 t1 t2 t3 t4 t5 t6 t7 t8 t9 : DC) : DC :=
         (.seq
          (.seq
           (.ops [
             ⟨some 44, (.mv (.t 0)), none⟩,
             ⟨some 45, (.bins .add (.t 44) (.c (.str (bs [46, 112, 114, 111, 116, 111, 116, 121, 112, 101])))), none⟩,
             ⟨some 46, (.call 173 [(.t 45)] (.int .i64) []), none⟩,
             ⟨some 8, (.mv (.t 46)), none⟩])
           (.seq
            (.ops [
              ⟨some 47, (.mv (.t 8)), none⟩,
              ⟨some 48, (.bini .geq (.t 47) (.c (.int .i64 0))), none⟩,
              ⟨some 49, (.mv (.t 48)), none⟩,
              ⟨some 50, (.mv (.t 0)), some (49, true)⟩,
              ⟨some 51, (.call 173 [(.t 50)] (.int .i64) []), some (49, true)⟩,
              ⟨some 52, (.bini .geq (.t 51) (.c (.int .i64 14))), some (49, true)⟩,
              ⟨some 53, (.pick (.t 49) (.t 52) (.c (.bool false))), none⟩])
            (realm_props.sX2 t2)))
          (realm_props.sX6 t6))
def realm_props.t7 : DC := realm_props.tX7 realm_props.t0 realm_props.t1 realm_props.t2 realm_props.t3 realm_props.t4 realm_props.t5 realm_props.t6 .skip .skip .skip
def realm_props.sX7 (t : DC) : DC := .kp [0, 3] [1003] t
def realm_props.tX8 (t0 t1 t2 t3 t4 t5 t6 t7 t8 t9 : DC) : DC :=
        (.seq
         (.seq
          (.ops [
            ⟨some 31, (.mv (.t 7)), none⟩,
            ⟨some 32, (.mv (.t 31)), none⟩,
            ⟨some 33, (.mv (.t 4)), some (32, true)⟩,
            ⟨some 34, (.call 222 [(.t 33), (.c (.str (bs [69, 114, 114, 111, 114])))] .bool []), some (32, true)⟩,
            ⟨some 35, (.pick (.t 32) (.t 34) (.c (.bool false))), none⟩])
          (realm_props.sX1 t1))
         (realm_props.sX7 t7))
def realm_props.t8 : DC := realm_props.tX8 realm_props.t0 realm_props.t1 realm_props.t2 realm_props.t3 realm_props.t4 realm_props.t5 realm_props.t6 realm_props.t7 .skip .skip
def realm_props.sX8 (t : DC) : DC := .kp [0, 3, 4, 7] [1003] t
def realm_props.tX9 (t0 t1 t2 t3 t4 t5 t6 t7 t8 t9 : DC) : DC :=
       (.seq
        (.seq
         (.ops [
           ⟨some 24, (.mv (.t 7)), none⟩])
         (.cond (.t 24)
          (.ops [
            ⟨some 25, (.mv (.t 3)), none⟩,
            ⟨some 26, (.mv (.t 6)), none⟩,
            ⟨some 27, (.call 172 [(.t 26)] .val []), none⟩,
            ⟨some 28, (.call 169 [(.c (.str (bs [99, 111, 110, 115, 116, 114, 117, 99, 116, 111, 114]))), (.t 27), (.c (.bool false))] .prp []), none⟩,
            ⟨some 29, (.bslice none .prp (List.replicate 1 (⟨⟨bs [], 0⟩, ⟨0, ⟨0, 0, bs [], 0⟩, ⟨0, 0, bs [], 0⟩, ⟨0, 0, bs [], 0⟩, false, false, false⟩⟩ : Prp)) [(0, (.t 28))]), none⟩,
            ⟨some 30, (.append 1003 .prp (.t 25) (.t 29)), none⟩,
            ⟨some 3, (.mv (.t 30)), none⟩])
          .skip))
        (realm_props.sX8 t8))
def realm_props.t9 : DC := realm_props.tX9 realm_props.t0 realm_props.t1 realm_props.t2 realm_props.t3 realm_props.t4 realm_props.t5 realm_props.t6 realm_props.t7 realm_props.t8 .skip
def realm_props.sX9 (t : DC) : DC := .kp [0, 3, 4, 6, 7] [1003] t
def realm_props.bodyX (t0 t1 t2 t3 t4 t5 t6 t7 t8 t9 : DC) : DC :=
  (.seq
   (.ops [
     ⟨some 2, (.mv (.c (.nsl .prp))), none⟩])
   (.seq
    (.ops [
      ⟨some 3, (.mkrow 1003 .prp), none⟩])
    (.seq
     (.ops [
       ⟨some 13, (.mv (.t 0)), none⟩,
       ⟨some 14, (.call 221 [(.t 13), (.c (.str (bs [46, 112, 114, 111, 116, 111, 116, 121, 112, 101])))] (.p2 .str .bool) []), none⟩,
       ⟨some 12, (.mv (.t 14)), none⟩,
       ⟨some 15, (.ext (.t 12) 0), none⟩,
       ⟨some 16, (.ext (.t 12) 1), none⟩,
       ⟨some 4, (.mv (.t 15)), none⟩,
       ⟨some 5, (.mv (.t 16)), none⟩])
     (.seq
      (.ops [
        ⟨some 17, (.mv (.t 4)), none⟩,
        ⟨some 18, (.call 173 [(.t 17)] (.int .i64) []), none⟩,
        ⟨some 6, (.mv (.t 18)), none⟩])
      (.seq
  (.opsc [
    ⟨some 19, (.mv (.t 5)), none⟩,
    ⟨some 20, (.mv (.t 19)), none⟩,
    ⟨some 21, (.mv (.t 6)), some (20, true)⟩,
    ⟨some 22, (.bini .geq (.t 21) (.c (.int .i64 14))), some (20, true)⟩,
    ⟨some 23, (.pick (.t 20) (.t 22) (.c (.bool false))), none⟩] [0, 3, 4, 6, 23] [1003] t0)
       (realm_props.sX9 t9))))))
def realm_props.body : DC := realm_props.bodyX realm_props.t0 realm_props.t1 realm_props.t2 realm_props.t3 realm_props.t4 realm_props.t5 realm_props.t6 realm_props.t7 realm_props.t8 realm_props.t9
def realm_props : FD := ⟨1, [.tmp 2], realm_props.body⟩
/-- 175 bailiff/table.Check -/
def table_Check.bX0 (t0 : DC) : DC :=
  (.seq
   (.ops [
     ⟨some 16, (.bini .lss (.t 15) (.t 14)), none⟩])
   (.seq
    (.cond (.t 16)
     .skip
     (.exit 0))
    (.seq
     (.block 1
      (.seq
       (.ops [
         ⟨some 17, (.mv (.t 15)), none⟩,
         ⟨some 18, (.iaddr false 0 18 (.t 13) (.t 15)), none⟩,
         ⟨some 19, (.load (some 18) (.t 18)), none⟩,
         ⟨some 5, (.alloc 5 [(.str (bs [])), (.int .i64 0), (.int .u8 0), (.int .u8 0), (.float 0), (.str (bs [])), (.int .i64 0), (.int .u8 0), (.float 0), (.str (bs [])), (.int .i64 0), (.int .u8 0), (.float 0), (.str (bs [])), (.int .i64 0), (.bool false), (.bool false), (.bool false)] none), none⟩,
         ⟨some 4, (.mv (.t 17)), none⟩,
         ⟨none, (.store 18 (.t 5) (.t 19)), none⟩])
       (.seq
        (.seq
         (.ops [
           ⟨some 20, (.faddr 0 (.t 5)), none⟩,
           ⟨some 21, (.load (some 2) (.t 20)), none⟩,
           ⟨some 22, (.call 158 [(.t 21)] (.int .i64) []), none⟩,
           ⟨some 6, (.mv (.t 22)), none⟩])
         (.seq
          (.ops [
            ⟨some 23, (.mv (.t 6)), none⟩,
            ⟨some 24, (.bini .neq (.t 23) (.c (.int .i64 0))), none⟩])
          (.cond (.t 24)
           (.seq
            (.ops [
              ⟨some 25, (.mv (.t 6)), none⟩,
              ⟨some 2, (.mv (.t 25)), none⟩])
            .ret)
           .skip)))
        (.seq
         (.seq
          (.ops [
            ⟨some 26, (.faddr 2 (.t 5)), none⟩,
            ⟨some 27, (.load (some 16) (.t 26)), none⟩,
            ⟨some 28, (.call 179 [(.t 27)] .bool []), none⟩,
            ⟨some 29, (.not (.t 28)), none⟩])
          (.cond (.t 29)
           (.seq
            (.ops [
              ⟨some 2, (.mv (.c (.int .i64 90))), none⟩])
            .ret)
           .skip))
         (.seq
          (.seq
           (.ops [
             ⟨some 30, (.mv (.t 3)), none⟩,
             ⟨some 31, (.faddr 0 (.t 5)), none⟩,
             ⟨some 32, (.load (some 2) (.t 31)), none⟩,
             ⟨some 33, (.mget false (.int .i64 0) true [2, 0] (.t 30) (.t 32)), none⟩,
             ⟨some 34, (.bini .gtr (.t 33) (.c (.int .i64 0))), none⟩])
           (.cond (.t 34)
            (.seq
             (.ops [
               ⟨some 2, (.mv (.c (.int .i64 100))), none⟩])
             .ret)
            .skip))
          (.ops [
            ⟨some 35, (.mv (.t 3)), none⟩,
            ⟨some 36, (.faddr 0 (.t 5)), none⟩,
            ⟨some 37, (.load (some 2) (.t 36)), none⟩,
            ⟨some 38, (.mv (.t 4)), none⟩,
            ⟨some 39, (.bini .add (.t 38) (.c (.int .i64 1))), none⟩,
            ⟨none, (.mput true [2, 0] (.t 35) (.t 37) (.t 39)), none⟩]))))))
     (.ops [
       ⟨some 40, (.bini .add (.t 15) (.c (.int .i64 1))), none⟩,
       ⟨some 15, (.mv (.t 40)), none⟩]))))
def table_Check.tX0 (t0 : DC) : DC :=
      (.seq
       (.ops [
         ⟨some 2, (.mv (.c (.int .i64 0))), none⟩])
       .ret)
def table_Check.t0 : DC := table_Check.tX0 .skip
def table_Check.sX0 (t : DC) : DC := .kp [] [] t
def table_Check.bodyX (t0 : DC) : DC :=
  (.seq
   (.ops [
     ⟨some 2, (.mv (.c (.int .i64 0))), none⟩])
   (.seq
    (.seq
     (.ops [
       ⟨some 7, (.mv (.t 0)), none⟩,
       ⟨some 8, (.len false (.t 7)), none⟩,
       ⟨some 9, (.bini .gtr (.t 8) (.c (.int .i64 1024))), none⟩])
     (.cond (.t 9)
      (.seq
       (.ops [
         ⟨some 2, (.mv (.c (.int .i64 4))), none⟩])
       .ret)
      .skip))
    (.seq
     (.ops [
       ⟨some 10, (.mv (.t 0)), none⟩,
       ⟨some 11, (.len false (.t 10)), none⟩,
       ⟨some 12, (.mkmap 1003 true (some (.t 11))), none⟩,
       ⟨some 3, (.mv (.t 12)), none⟩])
     (.seq
      (.seq
       (.ops [
         ⟨some 13, (.mv (.t 0)), none⟩,
         ⟨some 14, (.len false (.t 13)), none⟩,
         ⟨some 15, (.mv (.c (.int .i64 0))), none⟩])
       (.block 0
        (.loop [3, 13, 14, 15] [1003] (table_Check.bX0 t0))))
      (table_Check.sX0 t0)))))
def table_Check.body : DC := table_Check.bodyX table_Check.t0
def table_Check : FD := ⟨1, [.tmp 2], table_Check.body⟩
/-- 176 bailiff/table.Find -/
def table_Find.bodyX : DC :=
  (.seq
   (.ops [
     ⟨some 3, (.box 3 (.t 1)), none⟩,
     ⟨some 4, (.alloc 4 [(.int .u8 0), (.int .u8 0), (.float 0), (.str (bs [])), (.int .i64 0), (.int .u8 0), (.float 0), (.str (bs [])), (.int .i64 0), (.int .u8 0), (.float 0), (.str (bs [])), (.int .i64 0), (.bool false), (.bool false), (.bool false)] none), none⟩,
     ⟨some 5, (.mv (.c (.bool false))), none⟩,
     ⟨some 6, (.mv (.c (.int .i64 0))), none⟩])
   (.seq
    (.seq
     (.ops [
       ⟨some 9, (.mv (.t 0)), none⟩,
       ⟨some 10, (.load (some 2) (.t 3)), none⟩,
       ⟨some 11, (.call 177 [(.t 9), (.t 10)] (.int .i64) []), none⟩,
       ⟨some 7, (.mv (.t 11)), none⟩])
     (.seq
      (.ops [
        ⟨some 12, (.mv (.t 7)), none⟩,
        ⟨some 13, (.bini .neq (.t 12) (.c (.int .i64 0))), none⟩])
      (.cond (.t 13)
       (.seq
        (.ops [
          ⟨some 14, (.build [(.int .u8 0), (.int .u8 0), (.float 0), (.str (bs [])), (.int .i64 0), (.int .u8 0), (.float 0), (.str (bs [])), (.int .i64 0), (.int .u8 0), (.float 0), (.str (bs [])), (.int .i64 0), (.bool false), (.bool false), (.bool false)] []), none⟩,
          ⟨some 15, (.mv (.t 7)), none⟩,
          ⟨none, (.store 16 (.t 4) (.t 14)), none⟩,
          ⟨some 5, (.mv (.c (.bool false))), none⟩,
          ⟨some 6, (.mv (.t 15)), none⟩])
        .ret)
       .skip)))
    (.seq
     (.seq
      (.ops [
        ⟨some 16, (.mv (.t 0)), none⟩,
        ⟨some 17, (.load (some 2) (.t 3)), none⟩,
        ⟨some 18, (.call 178 [(.t 16), (.t 17)] (.int .i64) []), none⟩,
        ⟨some 8, (.mv (.t 18)), none⟩])
      (.seq
       (.ops [
         ⟨some 19, (.mv (.t 8)), none⟩,
         ⟨some 20, (.bini .geq (.t 19) (.c (.int .i64 0))), none⟩])
       (.cond (.t 20)
        (.seq
         (.ops [
           ⟨some 21, (.mv (.t 0)), none⟩,
           ⟨some 22, (.mv (.t 8)), none⟩,
           ⟨some 23, (.iaddr false 0 18 (.t 21) (.t 22)), none⟩,
           ⟨some 24, (.faddr 2 (.t 23)), none⟩,
           ⟨some 25, (.load (some 16) (.t 24)), none⟩,
           ⟨none, (.store 16 (.t 4) (.t 25)), none⟩,
           ⟨some 5, (.mv (.c (.bool true))), none⟩,
           ⟨some 6, (.mv (.c (.int .i64 0))), none⟩])
         .ret)
        .skip)))
     (.seq
      (.ops [
        ⟨some 26, (.build [(.int .u8 0), (.int .u8 0), (.float 0), (.str (bs [])), (.int .i64 0), (.int .u8 0), (.float 0), (.str (bs [])), (.int .i64 0), (.int .u8 0), (.float 0), (.str (bs [])), (.int .i64 0), (.bool false), (.bool false), (.bool false)] []), none⟩,
        ⟨none, (.store 16 (.t 4) (.t 26)), none⟩,
        ⟨some 5, (.mv (.c (.bool false))), none⟩,
        ⟨some 6, (.mv (.c (.int .i64 0))), none⟩])
      .ret))))
def table_Find.body : DC := table_Find.bodyX
def table_Find : FD := ⟨2, [.cell 4 (some 16), .tmp 5, .tmp 6], table_Find.body⟩
/-- 177 bailiff/table.asked -/
def table_asked.bodyX : DC :=
  (.seq
   (.ops [
     ⟨some 3, (.box 3 (.t 1)), none⟩,
     ⟨some 4, (.mv (.c (.int .i64 0))), none⟩])
   (.seq
    (.seq
     (.ops [
       ⟨some 6, (.mv (.t 0)), none⟩,
       ⟨some 7, (.call 175 [(.t 6)] (.int .i64) []), none⟩,
       ⟨some 5, (.mv (.t 7)), none⟩])
     (.seq
      (.ops [
        ⟨some 8, (.mv (.t 5)), none⟩,
        ⟨some 9, (.bini .neq (.t 8) (.c (.int .i64 0))), none⟩])
      (.cond (.t 9)
       (.seq
        (.ops [
          ⟨some 10, (.mv (.t 5)), none⟩,
          ⟨some 4, (.mv (.t 10)), none⟩])
        .ret)
       .skip)))
    (.seq
     (.ops [
       ⟨some 11, (.load (some 2) (.t 3)), none⟩,
       ⟨some 12, (.call 158 [(.t 11)] (.int .i64) []), none⟩,
       ⟨some 4, (.mv (.t 12)), none⟩])
     .ret)))
def table_asked.body : DC := table_asked.bodyX
def table_asked : FD := ⟨2, [.tmp 4], table_asked.body⟩
/-- 178 bailiff/table.at -/
def table_at.bX0 (t0 : DC) : DC :=
  (.seq
   (.ops [
     ⟨some 9, (.bini .lss (.t 8) (.t 7)), none⟩])
   (.seq
    (.cond (.t 9)
     .skip
     (.exit 0))
    (.seq
     (.block 1
      (.seq
       (.ops [
         ⟨some 10, (.mv (.t 8)), none⟩,
         ⟨some 5, (.mv (.t 10)), none⟩])
       (.seq
        (.draw [
          ⟨some 11, (.mv (.t 0)), none⟩,
          ⟨some 12, (.mv (.t 5)), none⟩,
          ⟨some 13, (.iaddr false 0 18 (.t 11) (.t 12)), none⟩,
          ⟨some 14, (.faddr 0 (.t 13)), none⟩,
          ⟨some 15, (.load (some 2) (.t 14)), none⟩,
          ⟨some 16, (.load (some 2) (.t 3)), none⟩,
          ⟨some 17, (.eqa false [2, 0] (.t 15) (.t 16)), none⟩] [[], [], [0, 1], [0, 1, 2], [0, 1, 2, 3], [], [0, 1, 2, 3, 4, 5]])
        (.cond (.t 17)
         (.seq
          (.ops [
            ⟨some 18, (.mv (.t 5)), none⟩,
            ⟨some 4, (.mv (.t 18)), none⟩])
          .ret)
         .skip))))
     (.ops [
       ⟨some 19, (.bini .add (.t 8) (.c (.int .i64 1))), none⟩,
       ⟨some 8, (.mv (.t 19)), none⟩]))))
def table_at.tX0 (t0 : DC) : DC :=
    (.seq
     (.ops [
       ⟨some 4, (.mv (.c (.int .i64 (-1)))), none⟩])
     .ret)
def table_at.t0 : DC := table_at.tX0 .skip
def table_at.sX0 (t : DC) : DC := .kp [] [] t
def table_at.bodyX (t0 : DC) : DC :=
  (.seq
   (.ops [
     ⟨some 3, (.box 3 (.t 1)), none⟩,
     ⟨some 4, (.mv (.c (.int .i64 0))), none⟩])
   (.seq
    (.seq
     (.ops [
       ⟨some 6, (.mv (.t 0)), none⟩,
       ⟨some 7, (.len false (.t 6)), none⟩,
       ⟨some 8, (.mv (.c (.int .i64 0))), none⟩])
     (.block 0
      (.loop [0, 3, 7, 8] [3] (table_at.bX0 t0))))
    (table_at.sX0 t0)))
def table_at.body : DC := table_at.bodyX table_at.t0
def table_at : FD := ⟨2, [.tmp 4], table_at.body⟩
/-- 179 bailiff/table.whole -/
def table_whole.tX0 (t0 : DC) : DC :=
  (.ops [
    ⟨some 2, (.mv (.t 18)), none⟩])
def table_whole.t0 : DC := table_whole.tX0 .skip
def table_whole.bodyX (t0 : DC) : DC :=
  (.seq
   (.ops [
     ⟨some 1, (.box 1 (.t 0)), none⟩,
     ⟨some 2, (.mv (.c (.bool false))), none⟩])
   (.seq
    (.ops [
      ⟨some 6, (.load (some 16) (.t 1)), none⟩,
      ⟨some 7, (.call 127 [(.t 6)] (.p2 .dsc (.int .i64)) []), none⟩,
      ⟨some 5, (.mv (.t 7)), none⟩,
      ⟨some 8, (.ext (.t 5) 0), none⟩,
      ⟨some 9, (.ext (.t 5) 1), none⟩,
      ⟨some 3, (.alloc 3 [(.int .u8 0), (.int .u8 0), (.float 0), (.str (bs [])), (.int .i64 0), (.int .u8 0), (.float 0), (.str (bs [])), (.int .i64 0), (.int .u8 0), (.float 0), (.str (bs [])), (.int .i64 0), (.bool false), (.bool false), (.bool false)] none), none⟩,
      ⟨none, (.store 16 (.t 3) (.t 8)), none⟩,
      ⟨some 4, (.mv (.t 9)), none⟩])
    (.seq
  (.opsc [
    ⟨some 10, (.mv (.t 4)), none⟩,
    ⟨some 11, (.bini .eql (.t 10) (.c (.int .i64 0))), none⟩,
    ⟨some 12, (.mv (.t 11)), none⟩,
    ⟨some 13, (.faddr 0 (.t 3)), some (12, true)⟩,
    ⟨some 14, (.load none (.t 13)), some (12, true)⟩,
    ⟨some 15, (.faddr 0 (.t 1)), some (12, true)⟩,
    ⟨some 16, (.load none (.t 15)), some (12, true)⟩,
    ⟨some 17, (.bini .eql (.t 14) (.t 16)), some (12, true)⟩,
    ⟨some 18, (.pick (.t 12) (.t 17) (.c (.bool false))), none⟩] [18] [] t0)
     .ret)))
def table_whole.body : DC := table_whole.bodyX table_whole.t0
def table_whole : FD := ⟨1, [.tmp 2], table_whole.body⟩
/-- 180 bailiff/value.Calls -/
def value_Calls.tX0 (t0 : DC) : DC :=
  (.ops [
    ⟨some 2, (.mv (.t 10)), none⟩])
def value_Calls.t0 : DC := value_Calls.tX0 .skip
def value_Calls.bodyX (t0 : DC) : DC :=
  (.seq
   (.ops [
     ⟨some 1, (.box 1 (.t 0)), none⟩,
     ⟨some 2, (.mv (.c (.bool false))), none⟩])
   (.seq
  (.opsc [
    ⟨some 3, (.faddr 0 (.t 1)), none⟩,
    ⟨some 4, (.load none (.t 3)), none⟩,
    ⟨some 5, (.bini .eql (.t 4) (.c (.int .u8 7))), none⟩,
    ⟨some 6, (.mv (.t 5)), none⟩,
    ⟨some 7, (.faddr 0 (.t 1)), some (6, false)⟩,
    ⟨some 8, (.load none (.t 7)), some (6, false)⟩,
    ⟨some 9, (.bini .eql (.t 8) (.c (.int .u8 8))), some (6, false)⟩,
    ⟨some 10, (.pick (.t 6) (.c (.bool true)) (.t 9)), none⟩] [10] [] t0)
    .ret))
def value_Calls.body : DC := value_Calls.bodyX value_Calls.t0
def value_Calls : FD := ⟨1, [.tmp 2], value_Calls.body⟩
/-- 182 bailiff/value.May -/
def value_May.tX0 (t0 t1 t2 t3 t4 t5 : DC) : DC :=
  (.ops [
    ⟨some 12, (.mv (.t 11)), none⟩,
    ⟨some 13, (.faddr 2 (.t 1)), some (12, false)⟩,
    ⟨some 14, (.load none (.t 13)), some (12, false)⟩,
    ⟨some 15, (.len true (.t 14)), some (12, false)⟩,
    ⟨some 16, (.bini .gtr (.t 15) (.c (.int .i64 4096))), some (12, false)⟩,
    ⟨some 17, (.pick (.t 12) (.c (.bool true)) (.t 16)), none⟩])
def value_May.t0 : DC := value_May.tX0 .skip .skip .skip .skip .skip .skip
def value_May.tX1 (t0 t1 t2 t3 t4 t5 : DC) : DC :=
     (.cond (.t 17)
      (.seq
       (.ops [
         ⟨some 2, (.mv (.c (.bool false))), none⟩])
       .ret)
      .skip)
def value_May.t1 : DC := value_May.tX1 value_May.t0 .skip .skip .skip .skip .skip
def value_May.sX1 (t : DC) : DC := .kp [1, 17] [1] t
def value_May.tX2 (t0 t1 t2 t3 t4 t5 : DC) : DC :=
            (.cond (.t 37)
             (.seq
              (.ops [
                ⟨some 2, (.mv (.c (.bool false))), none⟩])
              .ret)
             .skip)
def value_May.t2 : DC := value_May.tX2 value_May.t0 value_May.t1 .skip .skip .skip .skip
def value_May.sX2 (t : DC) : DC := .kp [1, 3, 37] [1, 3] t
def value_May.tX3 (t0 t1 t2 t3 t4 t5 : DC) : DC :=
               (.cond (.t 48)
                (.ops [
                  ⟨some 53, (.faddr 3 (.t 3)), none⟩,
                  ⟨none, (.store 1 (.t 53) (.c (.int .i64 0))), none⟩])
                .skip)
def value_May.t3 : DC := value_May.tX3 value_May.t0 value_May.t1 value_May.t2 .skip .skip .skip
def value_May.sX3 (t : DC) : DC := .kp [1, 3, 48] [1, 3] t
def value_May.tX4 (t0 t1 t2 t3 t4 t5 : DC) : DC :=
  (.ops [
    ⟨some 2, (.mv (.t 63)), none⟩])
def value_May.t4 : DC := value_May.tX4 value_May.t0 value_May.t1 value_May.t2 value_May.t3 .skip .skip
def value_May.tX5 (t0 t1 t2 t3 t4 t5 : DC) : DC :=
      (.seq
  (.opsc [
    ⟨some 54, (.load (some 4) (.t 3)), none⟩,
    ⟨some 55, (.faddr 0 (.t 1)), none⟩,
    ⟨some 56, (.load none (.t 55)), none⟩,
    ⟨some 57, (.build [(.int .u8 0), (.float 0), (.str (bs [])), (.int .i64 0)] [((0, 1), (.t 56))]), none⟩,
    ⟨some 58, (.eqa false [0, 3, 2, 0] (.t 54) (.t 57)), none⟩,
    ⟨some 59, (.mv (.t 58)), none⟩,
    ⟨some 60, (.faddr 1 (.t 3)), some (59, true)⟩,
    ⟨some 61, (.load none (.t 60)), some (59, true)⟩,
    ⟨some 62, (.call 161 [(.t 61)] .bool []), some (59, true)⟩,
    ⟨some 63, (.pick (.t 59) (.t 62) (.c (.bool false))), none⟩] [63] [] t4)
       .ret)
def value_May.t5 : DC := value_May.tX5 value_May.t0 value_May.t1 value_May.t2 value_May.t3 value_May.t4 .skip
def value_May.sX5 (t : DC) : DC := .kp [1, 3] [1, 3] t
def value_May.bodyX (t0 t1 t2 t3 t4 t5 : DC) : DC :=
  (.seq
   (.ops [
     ⟨some 1, (.box 1 (.t 0)), none⟩,
     ⟨some 2, (.mv (.c (.bool false))), none⟩])
   (.seq
    (.seq
  (.opsc [
    ⟨some 4, (.faddr 0 (.t 1)), none⟩,
    ⟨some 5, (.load none (.t 4)), none⟩,
    ⟨some 6, (.bini .gtr (.t 5) (.c (.int .u8 8))), none⟩,
    ⟨some 7, (.mv (.t 6)), none⟩,
    ⟨some 8, (.faddr 3 (.t 1)), some (7, false)⟩,
    ⟨some 9, (.load none (.t 8)), some (7, false)⟩,
    ⟨some 10, (.bini .lss (.t 9) (.c (.int .i64 0))), some (7, false)⟩,
    ⟨some 11, (.pick (.t 7) (.c (.bool true)) (.t 10)), none⟩] [1, 11] [1] t0)
     (value_May.sX1 t1))
    (.seq
     (.ops [
       ⟨some 18, (.load (some 4) (.t 1)), none⟩,
       ⟨some 3, (.alloc 3 [(.int .u8 0), (.float 0), (.str (bs [])), (.int .i64 0)] none), none⟩,
       ⟨none, (.store 4 (.t 3) (.t 18)), none⟩])
     (.seq
      (.seq
       (.ops [
         ⟨some 19, (.faddr 0 (.t 1)), none⟩,
         ⟨some 20, (.load none (.t 19)), none⟩])
       (.block 0
        (.seq
         (.ops [
           ⟨some 22, (.bini .eql (.t 20) (.c (.int .u8 2))), none⟩,
           ⟨some 21, (.mv (.t 22)), none⟩])
         (.cond (.t 21)
          (.seq
           (.ops [
             ⟨some 23, (.faddr 1 (.t 3)), none⟩,
             ⟨none, (.store 1 (.t 23) (.c (.float 0))), none⟩])
           (.seq
            (.ops [
              ⟨some 24, (.faddr 1 (.t 1)), none⟩,
              ⟨some 25, (.load none (.t 24)), none⟩,
              ⟨some 26, (.binf .neq (.t 25) (.c (.float 4607182418800017408))), none⟩,
              ⟨some 27, (.mv (.t 26)), none⟩,
              ⟨some 28, (.faddr 1 (.t 1)), some (27, true)⟩,
              ⟨some 29, (.load none (.t 28)), some (27, true)⟩,
              ⟨some 30, (.binf .neq (.t 29) (.c (.float 0))), some (27, true)⟩,
              ⟨some 31, (.mv (.t 30)), some (27, true)⟩,
              ⟨some 32, (.faddr 1 (.t 1)), some (31, false)⟩,
              ⟨some 33, (.load none (.t 32)), some (31, false)⟩,
              ⟨some 34, (.call 161 [(.t 33)] .bool []), some (31, false)⟩,
              ⟨some 35, (.not (.t 34)), some (31, false)⟩,
              ⟨some 36, (.pick (.t 31) (.c (.bool true)) (.t 35)), some (27, true)⟩,
              ⟨some 37, (.pick (.t 27) (.t 36) (.c (.bool false))), none⟩])
            (value_May.sX2 t2)))
          (.seq
           (.ops [
             ⟨some 39, (.bini .eql (.t 20) (.c (.int .u8 3))), none⟩,
             ⟨some 38, (.mv (.t 39)), none⟩])
           (.cond (.t 38)
            (.seq
             (.ops [
               ⟨some 40, (.faddr 1 (.t 3)), none⟩,
               ⟨none, (.store 1 (.t 40) (.c (.float 0))), none⟩])
             (.seq
              (.ops [
                ⟨some 41, (.faddr 1 (.t 1)), none⟩,
                ⟨some 42, (.load none (.t 41)), none⟩,
                ⟨some 43, (.call 161 [(.t 42)] .bool []), none⟩,
                ⟨some 44, (.not (.t 43)), none⟩])
              (.cond (.t 44)
               (.seq
                (.ops [
                  ⟨some 2, (.mv (.c (.bool false))), none⟩])
                .ret)
               .skip)))
            (.seq
             (.ops [
               ⟨some 46, (.bini .eql (.t 20) (.c (.int .u8 4))), none⟩,
               ⟨some 45, (.mv (.t 46)), none⟩])
             (.cond (.t 45)
              (.ops [
                ⟨some 47, (.faddr 2 (.t 3)), none⟩,
                ⟨none, (.store 1 (.t 47) (.c (.str (bs [])))), none⟩])
              (.seq
               (.seq
                (.ops [
                  ⟨some 49, (.bini .eql (.t 20) (.c (.int .u8 5))), none⟩,
                  ⟨some 48, (.mv (.t 49)), none⟩])
                (.cond (.t 48)
                 .skip
                 (.seq
                  (.ops [
                    ⟨some 50, (.bini .eql (.t 20) (.c (.int .u8 6))), none⟩,
                    ⟨some 48, (.mv (.t 50)), none⟩])
                  (.cond (.t 48)
                   .skip
                   (.seq
                    (.ops [
                      ⟨some 51, (.bini .eql (.t 20) (.c (.int .u8 7))), none⟩,
                      ⟨some 48, (.mv (.t 51)), none⟩])
                    (.cond (.t 48)
                     .skip
                     (.ops [
                       ⟨some 52, (.bini .eql (.t 20) (.c (.int .u8 8))), none⟩,
                       ⟨some 48, (.mv (.t 52)), none⟩])))))))
               (value_May.sX3 t3))))))))))
      (value_May.sX5 t5)))))
def value_May.body : DC := value_May.bodyX value_May.t0 value_May.t1 value_May.t2 value_May.t3 value_May.t4 value_May.t5
def value_May : FD := ⟨1, [.tmp 2], value_May.body⟩
/-- 185 bailiff/value.Str -/
def value_Str.bodyX : DC :=
  (.seq
   (.ops [
     ⟨some 2, (.alloc 2 [(.int .u8 0), (.float 0), (.str (bs [])), (.int .i64 0)] none), none⟩])
   (.seq
    (.ops [
      ⟨some 3, (.mv (.t 0)), none⟩,
      ⟨some 4, (.build [(.int .u8 0), (.float 0), (.str (bs [])), (.int .i64 0)] [((0, 1), (.c (.int .u8 4))), ((2, 1), (.t 3))]), none⟩,
      ⟨none, (.store 4 (.t 2) (.t 4)), none⟩])
    .ret))
def value_Str.body : DC := value_Str.bodyX
def value_Str : FD := ⟨1, [.cell 2 (some 4)], value_Str.body⟩
/-- 204 internal/bytealg.LastIndexByteString -/
def i_bytealg_LastIndexByteString.bX0 (t0 : DC) : DC :=
  (.seq
   (.seq
    (.ops [
      ⟨some 9, (.mv (.t 5)), none⟩,
      ⟨some 10, (.bini .geq (.t 9) (.c (.int .i64 0))), none⟩])
    (.cond (.t 10)
     .skip
     (.exit 0)))
   (.seq
    (.block 1
     (.seq
      (.ops [
        ⟨some 13, (.mv (.t 0)), none⟩,
        ⟨some 14, (.mv (.t 5)), none⟩,
        ⟨some 15, (.idxs (.t 13) (.t 14)), none⟩,
        ⟨some 16, (.mv (.t 1)), none⟩,
        ⟨some 17, (.bini .eql (.t 15) (.t 16)), none⟩])
      (.cond (.t 17)
       (.seq
        (.ops [
          ⟨some 18, (.mv (.t 5)), none⟩,
          ⟨some 4, (.mv (.t 18)), none⟩])
        .ret)
       .skip)))
    (.ops [
      ⟨some 11, (.mv (.t 5)), none⟩,
      ⟨some 12, (.bini .sub (.t 11) (.c (.int .i64 1))), none⟩,
      ⟨some 5, (.mv (.t 12)), none⟩])))
def i_bytealg_LastIndexByteString.tX0 (t0 : DC) : DC :=
    (.seq
     (.ops [
       ⟨some 4, (.mv (.c (.int .i64 (-1)))), none⟩])
     .ret)
def i_bytealg_LastIndexByteString.t0 : DC := i_bytealg_LastIndexByteString.tX0 .skip
def i_bytealg_LastIndexByteString.sX0 (t : DC) : DC := .kp [] [] t
def i_bytealg_LastIndexByteString.bodyX (t0 : DC) : DC :=
  (.seq
   (.ops [
     ⟨some 4, (.mv (.c (.int .i64 0))), none⟩])
   (.seq
    (.seq
     (.ops [
       ⟨some 6, (.mv (.t 0)), none⟩,
       ⟨some 7, (.len true (.t 6)), none⟩,
       ⟨some 8, (.bini .sub (.t 7) (.c (.int .i64 1))), none⟩,
       ⟨some 5, (.mv (.t 8)), none⟩])
     (.block 0
      (.loop [0, 1, 5] [] (i_bytealg_LastIndexByteString.bX0 t0))))
    (i_bytealg_LastIndexByteString.sX0 t0)))
def i_bytealg_LastIndexByteString.body : DC := i_bytealg_LastIndexByteString.bodyX i_bytealg_LastIndexByteString.t0
def i_bytealg_LastIndexByteString : FD := ⟨2, [.tmp 4], i_bytealg_LastIndexByteString.body⟩
/-- 205 internal/stringslite.CutSuffix -/
def i_stringslite_CutSuffix.bodyX : DC :=
  (.seq
   (.ops [
     ⟨some 4, (.mv (.c (.str (bs [])))), none⟩,
     ⟨some 5, (.mv (.c (.bool false))), none⟩])
   (.seq
    (.seq
     (.ops [
       ⟨some 6, (.mv (.t 0)), none⟩,
       ⟨some 7, (.mv (.t 1)), none⟩,
       ⟨some 8, (.call 206 [(.t 6), (.t 7)] .bool []), none⟩,
       ⟨some 9, (.not (.t 8)), none⟩])
     (.cond (.t 9)
      (.seq
       (.ops [
         ⟨some 10, (.mv (.t 0)), none⟩,
         ⟨some 4, (.mv (.t 10)), none⟩,
         ⟨some 5, (.mv (.c (.bool false))), none⟩])
       .ret)
      .skip))
    (.seq
     (.ops [
       ⟨some 11, (.mv (.t 0)), none⟩,
       ⟨some 12, (.mv (.t 0)), none⟩,
       ⟨some 13, (.len true (.t 12)), none⟩,
       ⟨some 14, (.mv (.t 1)), none⟩,
       ⟨some 15, (.len true (.t 14)), none⟩,
       ⟨some 16, (.bini .sub (.t 13) (.t 15)), none⟩,
       ⟨some 17, (.sstr (.t 11) none (some (.t 16))), none⟩,
       ⟨some 4, (.mv (.t 17)), none⟩,
       ⟨some 5, (.mv (.c (.bool true))), none⟩])
     .ret)))
def i_stringslite_CutSuffix.body : DC := i_stringslite_CutSuffix.bodyX
def i_stringslite_CutSuffix : FD := ⟨2, [.tmp 4, .tmp 5], i_stringslite_CutSuffix.body⟩
/-- 206 internal/stringslite.HasSuffix -/
def i_stringslite_HasSuffix.tX0 (t0 : DC) : DC :=
  (.ops [
    ⟨some 4, (.mv (.t 20)), none⟩])
def i_stringslite_HasSuffix.t0 : DC := i_stringslite_HasSuffix.tX0 .skip
def i_stringslite_HasSuffix.bodyX (t0 : DC) : DC :=
  (.seq
   (.ops [
     ⟨some 4, (.mv (.c (.bool false))), none⟩])
   (.seq
  (.opsc [
    ⟨some 5, (.mv (.t 0)), none⟩,
    ⟨some 6, (.len true (.t 5)), none⟩,
    ⟨some 7, (.mv (.t 1)), none⟩,
    ⟨some 8, (.len true (.t 7)), none⟩,
    ⟨some 9, (.bini .geq (.t 6) (.t 8)), none⟩,
    ⟨some 10, (.mv (.t 9)), none⟩,
    ⟨some 11, (.mv (.t 0)), some (10, true)⟩,
    ⟨some 12, (.mv (.t 0)), some (10, true)⟩,
    ⟨some 13, (.len true (.t 12)), some (10, true)⟩,
    ⟨some 14, (.mv (.t 1)), some (10, true)⟩,
    ⟨some 15, (.len true (.t 14)), some (10, true)⟩,
    ⟨some 16, (.bini .sub (.t 13) (.t 15)), some (10, true)⟩,
    ⟨some 17, (.sstr (.t 11) (some (.t 16)) none), some (10, true)⟩,
    ⟨some 18, (.mv (.t 1)), some (10, true)⟩,
    ⟨some 19, (.bins .eql (.t 17) (.t 18)), some (10, true)⟩,
    ⟨some 20, (.pick (.t 10) (.t 19) (.c (.bool false))), none⟩] [20] [] t0)
    .ret))
def i_stringslite_HasSuffix.body : DC := i_stringslite_HasSuffix.bodyX i_stringslite_HasSuffix.t0
def i_stringslite_HasSuffix : FD := ⟨2, [.tmp 4], i_stringslite_HasSuffix.body⟩
/-- 207 math.Abs -/
def math_Abs.bodyX : DC :=
  (.seq
   (.ops [
     ⟨some 2, (.mv (.c (.float 0))), none⟩])
   (.seq
    (.ops [
      ⟨some 3, (.mv (.t 0)), none⟩,
      ⟨some 4, (.call 209 [(.t 3)] (.int .u64) []), none⟩,
      ⟨some 5, (.bini .andNot (.t 4) (.c (.int .u64 9223372036854775808))), none⟩,
      ⟨some 6, (.call 210 [(.t 5)] .float []), none⟩,
      ⟨some 2, (.mv (.t 6)), none⟩])
    .ret))
def math_Abs.body : DC := math_Abs.bodyX
def math_Abs : FD := ⟨1, [.tmp 2], math_Abs.body⟩
/-- 208 math.Copysign -/
def math_Copysign.bodyX : DC :=
  (.seq
   (.ops [
     ⟨some 4, (.mv (.c (.float 0))), none⟩])
   (.seq
    (.ops [
      ⟨some 5, (.mv (.t 0)), none⟩,
      ⟨some 6, (.call 209 [(.t 5)] (.int .u64) []), none⟩,
      ⟨some 7, (.bini .andNot (.t 6) (.c (.int .u64 9223372036854775808))), none⟩,
      ⟨some 8, (.mv (.t 1)), none⟩,
      ⟨some 9, (.call 209 [(.t 8)] (.int .u64) []), none⟩,
      ⟨some 10, (.bini .and (.t 9) (.c (.int .u64 9223372036854775808))), none⟩,
      ⟨some 11, (.bini .or (.t 7) (.t 10)), none⟩,
      ⟨some 12, (.call 210 [(.t 11)] .float []), none⟩,
      ⟨some 4, (.mv (.t 12)), none⟩])
    .ret))
def math_Copysign.body : DC := math_Copysign.bodyX
def math_Copysign : FD := ⟨2, [.tmp 4], math_Copysign.body⟩
/-- 212 math.Signbit -/
def math_Signbit.bodyX : DC :=
  (.seq
   (.ops [
     ⟨some 2, (.mv (.c (.bool false))), none⟩])
   (.seq
    (.ops [
      ⟨some 3, (.mv (.t 0)), none⟩,
      ⟨some 4, (.call 209 [(.t 3)] (.int .u64) []), none⟩,
      ⟨some 5, (.conv .i64 (.t 4)), none⟩,
      ⟨some 6, (.bini .lss (.t 5) (.c (.int .i64 0))), none⟩,
      ⟨some 2, (.mv (.t 6)), none⟩])
    .ret))
def math_Signbit.body : DC := math_Signbit.bodyX
def math_Signbit : FD := ⟨1, [.tmp 2], math_Signbit.body⟩
/-- 213 math.Trunc -/
def math_Trunc.bodyX : DC :=
  (.seq
   (.ops [
     ⟨some 2, (.mv (.c (.float 0))), none⟩])
   (.seq
    (.cond (.c (.bool true))
     (.seq
      (.ops [
        ⟨some 3, (.mv (.t 0)), none⟩,
        ⟨some 4, (.call 214 [(.t 3)] .float []), none⟩,
        ⟨some 2, (.mv (.t 4)), none⟩])
      .ret)
     .skip)
    (.seq
     (.ops [
       ⟨some 5, (.mv (.t 0)), none⟩,
       ⟨some 6, (.call 215 [(.t 5)] .float []), none⟩,
       ⟨some 2, (.mv (.t 6)), none⟩])
     .ret)))
def math_Trunc.body : DC := math_Trunc.bodyX
def math_Trunc : FD := ⟨1, [.tmp 2], math_Trunc.body⟩
/-- 215 math.trunc -/
def math_trunc.tX0 (t0 : DC) : DC :=
       (.seq
        (.ops [
          ⟨some 24, (.mv (.t 3)), none⟩,
          ⟨some 25, (.call 210 [(.t 24)] .float []), none⟩,
          ⟨some 2, (.mv (.t 25)), none⟩])
        .ret)
def math_trunc.t0 : DC := math_trunc.tX0 .skip
def math_trunc.sX0 (t : DC) : DC := .kp [3] [] t
def math_trunc.bodyX (t0 : DC) : DC :=
  (.seq
   (.ops [
     ⟨some 2, (.mv (.c (.float 0))), none⟩])
   (.seq
    (.seq
     (.ops [
       ⟨some 5, (.mv (.t 0)), none⟩,
       ⟨some 6, (.call 207 [(.t 5)] .float []), none⟩,
       ⟨some 7, (.binf .lss (.t 6) (.c (.float 4607182418800017408))), none⟩])
     (.cond (.t 7)
      (.seq
       (.ops [
         ⟨some 8, (.mv (.t 0)), none⟩,
         ⟨some 9, (.call 208 [(.c (.float 0)), (.t 8)] .float []), none⟩,
         ⟨some 2, (.mv (.t 9)), none⟩])
       .ret)
      .skip))
    (.seq
     (.ops [
       ⟨some 10, (.mv (.t 0)), none⟩,
       ⟨some 11, (.call 209 [(.t 10)] (.int .u64) []), none⟩,
       ⟨some 3, (.mv (.t 11)), none⟩])
     (.seq
      (.ops [
        ⟨some 12, (.mv (.t 3)), none⟩,
        ⟨some 13, (.bini .shr (.t 12) (.c (.int .u64 52))), none⟩,
        ⟨some 14, (.bini .and (.t 13) (.c (.int .u64 2047))), none⟩,
        ⟨some 15, (.bini .sub (.t 14) (.c (.int .u64 1023))), none⟩,
        ⟨some 4, (.mv (.t 15)), none⟩])
      (.seq
       (.seq
        (.ops [
          ⟨some 16, (.mv (.t 4)), none⟩,
          ⟨some 17, (.bini .lss (.t 16) (.c (.int .u64 52))), none⟩])
        (.cond (.t 17)
         (.ops [
           ⟨some 18, (.mv (.t 3)), none⟩,
           ⟨some 19, (.mv (.t 4)), none⟩,
           ⟨some 20, (.bini .sub (.c (.int .u64 52)) (.t 19)), none⟩,
           ⟨some 21, (.bini .shl (.c (.int .u64 1)) (.t 20)), none⟩,
           ⟨some 22, (.bini .sub (.t 21) (.c (.int .u64 1))), none⟩,
           ⟨some 23, (.bini .andNot (.t 18) (.t 22)), none⟩,
           ⟨some 3, (.mv (.t 23)), none⟩])
         .skip))
       (math_trunc.sX0 t0))))))
def math_trunc.body : DC := math_trunc.bodyX math_trunc.t0
def math_trunc : FD := ⟨1, [.tmp 2], math_trunc.body⟩
/-- 221 strings.CutSuffix -/
def strings_CutSuffix.bodyX : DC :=
  (.seq
   (.ops [
     ⟨some 4, (.mv (.c (.str (bs [])))), none⟩,
     ⟨some 5, (.mv (.c (.bool false))), none⟩])
   (.seq
    (.ops [
      ⟨some 6, (.mv (.t 0)), none⟩,
      ⟨some 7, (.mv (.t 1)), none⟩,
      ⟨some 8, (.call 205 [(.t 6), (.t 7)] (.p2 .str .bool) []), none⟩,
      ⟨some 9, (.ext (.t 8) 0), none⟩,
      ⟨some 10, (.ext (.t 8) 1), none⟩,
      ⟨some 4, (.mv (.t 9)), none⟩,
      ⟨some 5, (.mv (.t 10)), none⟩])
    .ret))
def strings_CutSuffix.body : DC := strings_CutSuffix.bodyX
def strings_CutSuffix : FD := ⟨2, [.tmp 4, .tmp 5], strings_CutSuffix.body⟩
/-- 222 strings.HasSuffix -/
def strings_HasSuffix.bodyX : DC :=
  (.seq
   (.ops [
     ⟨some 4, (.mv (.c (.bool false))), none⟩])
   (.seq
    (.ops [
      ⟨some 5, (.mv (.t 0)), none⟩,
      ⟨some 6, (.mv (.t 1)), none⟩,
      ⟨some 7, (.call 206 [(.t 5), (.t 6)] .bool []), none⟩,
      ⟨some 4, (.mv (.t 7)), none⟩])
    .ret))
def strings_HasSuffix.body : DC := strings_HasSuffix.bodyX
def strings_HasSuffix : FD := ⟨2, [.tmp 4], strings_HasSuffix.body⟩
/-- 223 strings.LastIndexByte -/
def strings_LastIndexByte.bodyX : DC :=
  (.seq
   (.ops [
     ⟨some 4, (.mv (.c (.int .i64 0))), none⟩])
   (.seq
    (.ops [
      ⟨some 5, (.mv (.t 0)), none⟩,
      ⟨some 6, (.mv (.t 1)), none⟩,
      ⟨some 7, (.call 204 [(.t 5), (.t 6)] (.int .i64) []), none⟩,
      ⟨some 4, (.mv (.t 7)), none⟩])
    .ret))
def strings_LastIndexByte.body : DC := strings_LastIndexByte.bodyX
def strings_LastIndexByte : FD := ⟨2, [.tmp 4], strings_LastIndexByte.body⟩
end C
end Bz
