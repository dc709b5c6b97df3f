/- The resolved code of the functions, printed by gen.py. -/
import Derived.Test.YtjlgkjmbndmkjabDev2c
set_option linter.all false
set_option maxRecDepth 100000
namespace Bz
open Go
def bs (l : List UInt8) : ByteArray := ⟨l.toArray⟩
namespace C
/-- 18 bailiff/bailifflaw14.ChainNames -/
def bailifflaw14_ChainNames.tX0 (t0 t1 t2 t3 t4 t5 t6 t7 t8 t9 t10 t11 t12 t13 t14 t15 : DC) : DC :=
  (.ops [
    ⟨some 0, (.mv (.t 140)), none⟩])
def bailifflaw14_ChainNames.t0 : DC := bailifflaw14_ChainNames.tX0 .skip .skip .skip .skip .skip .skip .skip .skip .skip .skip .skip .skip .skip .skip .skip .skip
def bailifflaw14_ChainNames.tX1 (t0 t1 t2 t3 t4 t5 t6 t7 t8 t9 t10 t11 t12 t13 t14 t15 : DC) : DC :=
  (.opsc [
    ⟨some 137, (.mv (.t 136)), none⟩,
    ⟨some 138, (.mv (.t 22)), some (137, true)⟩,
    ⟨some 139, (.not (.t 138)), some (137, true)⟩,
    ⟨some 140, (.pick (.t 137) (.t 139) (.c (.bool false))), none⟩] [140] [] t0)
def bailifflaw14_ChainNames.t1 : DC := bailifflaw14_ChainNames.tX1 bailifflaw14_ChainNames.t0 .skip .skip .skip .skip .skip .skip .skip .skip .skip .skip .skip .skip .skip .skip .skip
def bailifflaw14_ChainNames.tX2 (t0 t1 t2 t3 t4 t5 t6 t7 t8 t9 t10 t11 t12 t13 t14 t15 : DC) : DC :=
  (.opsc [
    ⟨some 133, (.mv (.t 132)), none⟩,
    ⟨some 134, (.mv (.t 23)), some (133, true)⟩,
    ⟨some 135, (.bini .eql (.t 134) (.c (.int .i64 0))), some (133, true)⟩,
    ⟨some 136, (.pick (.t 133) (.t 135) (.c (.bool false))), none⟩] [22, 136] [] t1)
def bailifflaw14_ChainNames.t2 : DC := bailifflaw14_ChainNames.tX2 bailifflaw14_ChainNames.t0 bailifflaw14_ChainNames.t1 .skip .skip .skip .skip .skip .skip .skip .skip .skip .skip .skip .skip .skip .skip
def bailifflaw14_ChainNames.tX3 (t0 t1 t2 t3 t4 t5 t6 t7 t8 t9 t10 t11 t12 t13 t14 t15 : DC) : DC :=
  (.opsc [
    ⟨some 129, (.mv (.t 128)), none⟩,
    ⟨some 130, (.mv (.t 20)), some (129, true)⟩,
    ⟨some 131, (.bini .eql (.t 130) (.c (.int .i64 0))), some (129, true)⟩,
    ⟨some 132, (.pick (.t 129) (.t 131) (.c (.bool false))), none⟩] [22, 23, 132] [] t2)
def bailifflaw14_ChainNames.t3 : DC := bailifflaw14_ChainNames.tX3 bailifflaw14_ChainNames.t0 bailifflaw14_ChainNames.t1 bailifflaw14_ChainNames.t2 .skip .skip .skip .skip .skip .skip .skip .skip .skip .skip .skip .skip .skip
def bailifflaw14_ChainNames.tX4 (t0 t1 t2 t3 t4 t5 t6 t7 t8 t9 t10 t11 t12 t13 t14 t15 : DC) : DC :=
  (.opsc [
    ⟨some 125, (.mv (.t 124)), none⟩,
    ⟨some 126, (.mv (.t 21)), some (125, true)⟩,
    ⟨some 127, (.bini .eql (.t 126) (.c (.int .i64 0))), some (125, true)⟩,
    ⟨some 128, (.pick (.t 125) (.t 127) (.c (.bool false))), none⟩] [20, 22, 23, 128] [] t3)
def bailifflaw14_ChainNames.t4 : DC := bailifflaw14_ChainNames.tX4 bailifflaw14_ChainNames.t0 bailifflaw14_ChainNames.t1 bailifflaw14_ChainNames.t2 bailifflaw14_ChainNames.t3 .skip .skip .skip .skip .skip .skip .skip .skip .skip .skip .skip .skip
def bailifflaw14_ChainNames.tX5 (t0 t1 t2 t3 t4 t5 t6 t7 t8 t9 t10 t11 t12 t13 t14 t15 : DC) : DC :=
  (.opsc [
    ⟨some 121, (.mv (.t 120)), none⟩,
    ⟨some 122, (.mv (.t 19)), some (121, true)⟩,
    ⟨some 123, (.bini .eql (.t 122) (.c (.int .i64 2))), some (121, true)⟩,
    ⟨some 124, (.pick (.t 121) (.t 123) (.c (.bool false))), none⟩] [20, 21, 22, 23, 124] [] t4)
def bailifflaw14_ChainNames.t5 : DC := bailifflaw14_ChainNames.tX5 bailifflaw14_ChainNames.t0 bailifflaw14_ChainNames.t1 bailifflaw14_ChainNames.t2 bailifflaw14_ChainNames.t3 bailifflaw14_ChainNames.t4 .skip .skip .skip .skip .skip .skip .skip .skip .skip .skip .skip
def bailifflaw14_ChainNames.tX6 (t0 t1 t2 t3 t4 t5 t6 t7 t8 t9 t10 t11 t12 t13 t14 t15 : DC) : DC :=
  (.opsc [
    ⟨some 117, (.mv (.t 116)), none⟩,
    ⟨some 118, (.mv (.t 17)), some (117, true)⟩,
    ⟨some 119, (.bini .eql (.t 118) (.c (.int .i64 2))), some (117, true)⟩,
    ⟨some 120, (.pick (.t 117) (.t 119) (.c (.bool false))), none⟩] [19, 20, 21, 22, 23, 120] [] t5)
def bailifflaw14_ChainNames.t6 : DC := bailifflaw14_ChainNames.tX6 bailifflaw14_ChainNames.t0 bailifflaw14_ChainNames.t1 bailifflaw14_ChainNames.t2 bailifflaw14_ChainNames.t3 bailifflaw14_ChainNames.t4 bailifflaw14_ChainNames.t5 .skip .skip .skip .skip .skip .skip .skip .skip .skip .skip
def bailifflaw14_ChainNames.tX7 (t0 t1 t2 t3 t4 t5 t6 t7 t8 t9 t10 t11 t12 t13 t14 t15 : DC) : DC :=
  (.opsc [
    ⟨some 113, (.mv (.t 112)), none⟩,
    ⟨some 114, (.mv (.t 14)), some (113, true)⟩,
    ⟨some 115, (.bini .eql (.t 114) (.c (.int .i64 140))), some (113, true)⟩,
    ⟨some 116, (.pick (.t 113) (.t 115) (.c (.bool false))), none⟩] [17, 19, 20, 21, 22, 23, 116] [] t6)
def bailifflaw14_ChainNames.t7 : DC := bailifflaw14_ChainNames.tX7 bailifflaw14_ChainNames.t0 bailifflaw14_ChainNames.t1 bailifflaw14_ChainNames.t2 bailifflaw14_ChainNames.t3 bailifflaw14_ChainNames.t4 bailifflaw14_ChainNames.t5 bailifflaw14_ChainNames.t6 .skip .skip .skip .skip .skip .skip .skip .skip .skip
def bailifflaw14_ChainNames.tX8 (t0 t1 t2 t3 t4 t5 t6 t7 t8 t9 t10 t11 t12 t13 t14 t15 : DC) : DC :=
  (.opsc [
    ⟨some 109, (.mv (.t 108)), none⟩,
    ⟨some 110, (.mv (.t 10)), some (109, true)⟩,
    ⟨some 111, (.not (.t 110)), some (109, true)⟩,
    ⟨some 112, (.pick (.t 109) (.t 111) (.c (.bool false))), none⟩] [14, 17, 19, 20, 21, 22, 23, 112] [] t7)
def bailifflaw14_ChainNames.t8 : DC := bailifflaw14_ChainNames.tX8 bailifflaw14_ChainNames.t0 bailifflaw14_ChainNames.t1 bailifflaw14_ChainNames.t2 bailifflaw14_ChainNames.t3 bailifflaw14_ChainNames.t4 bailifflaw14_ChainNames.t5 bailifflaw14_ChainNames.t6 bailifflaw14_ChainNames.t7 .skip .skip .skip .skip .skip .skip .skip .skip
def bailifflaw14_ChainNames.tX9 (t0 t1 t2 t3 t4 t5 t6 t7 t8 t9 t10 t11 t12 t13 t14 t15 : DC) : DC :=
  (.opsc [
    ⟨some 106, (.mv (.t 105)), none⟩,
    ⟨some 107, (.mv (.t 8)), some (106, true)⟩,
    ⟨some 108, (.pick (.t 106) (.t 107) (.c (.bool false))), none⟩] [10, 14, 17, 19, 20, 21, 22, 23, 108] [] t8)
def bailifflaw14_ChainNames.t9 : DC := bailifflaw14_ChainNames.tX9 bailifflaw14_ChainNames.t0 bailifflaw14_ChainNames.t1 bailifflaw14_ChainNames.t2 bailifflaw14_ChainNames.t3 bailifflaw14_ChainNames.t4 bailifflaw14_ChainNames.t5 bailifflaw14_ChainNames.t6 bailifflaw14_ChainNames.t7 bailifflaw14_ChainNames.t8 .skip .skip .skip .skip .skip .skip .skip
def bailifflaw14_ChainNames.tX10 (t0 t1 t2 t3 t4 t5 t6 t7 t8 t9 t10 t11 t12 t13 t14 t15 : DC) : DC :=
  (.opsc [
    ⟨some 102, (.mv (.t 101)), none⟩,
    ⟨some 103, (.mv (.t 7)), some (102, true)⟩,
    ⟨some 104, (.bini .eql (.t 103) (.c (.int .i64 140))), some (102, true)⟩,
    ⟨some 105, (.pick (.t 102) (.t 104) (.c (.bool false))), none⟩] [8, 10, 14, 17, 19, 20, 21, 22, 23, 105] [] t9)
def bailifflaw14_ChainNames.t10 : DC := bailifflaw14_ChainNames.tX10 bailifflaw14_ChainNames.t0 bailifflaw14_ChainNames.t1 bailifflaw14_ChainNames.t2 bailifflaw14_ChainNames.t3 bailifflaw14_ChainNames.t4 bailifflaw14_ChainNames.t5 bailifflaw14_ChainNames.t6 bailifflaw14_ChainNames.t7 bailifflaw14_ChainNames.t8 bailifflaw14_ChainNames.t9 .skip .skip .skip .skip .skip .skip
def bailifflaw14_ChainNames.tX11 (t0 t1 t2 t3 t4 t5 t6 t7 t8 t9 t10 t11 t12 t13 t14 t15 : DC) : DC :=
  (.opsc [
    ⟨some 96, (.mv (.t 95)), none⟩,
    ⟨some 97, (.mv (.t 3)), some (96, true)⟩,
    ⟨some 98, (.iaddr false 0 1 (.t 97) (.c (.int .i64 0))), some (96, true)⟩,
    ⟨some 99, (.load none (.t 98)), some (96, true)⟩,
    ⟨some 100, (.bini .eql (.t 99) (.c (.int .i64 2))), some (96, true)⟩,
    ⟨some 101, (.pick (.t 96) (.t 100) (.c (.bool false))), none⟩] [7, 8, 10, 14, 17, 19, 20, 21, 22, 23, 101] [] t10)
def bailifflaw14_ChainNames.t11 : DC := bailifflaw14_ChainNames.tX11 bailifflaw14_ChainNames.t0 bailifflaw14_ChainNames.t1 bailifflaw14_ChainNames.t2 bailifflaw14_ChainNames.t3 bailifflaw14_ChainNames.t4 bailifflaw14_ChainNames.t5 bailifflaw14_ChainNames.t6 bailifflaw14_ChainNames.t7 bailifflaw14_ChainNames.t8 bailifflaw14_ChainNames.t9 bailifflaw14_ChainNames.t10 .skip .skip .skip .skip .skip
def bailifflaw14_ChainNames.tX12 (t0 t1 t2 t3 t4 t5 t6 t7 t8 t9 t10 t11 t12 t13 t14 t15 : DC) : DC :=
  (.opsc [
    ⟨some 91, (.mv (.t 90)), none⟩,
    ⟨some 92, (.mv (.t 3)), some (91, true)⟩,
    ⟨some 93, (.len false (.t 92)), some (91, true)⟩,
    ⟨some 94, (.bini .eql (.t 93) (.c (.int .i64 1))), some (91, true)⟩,
    ⟨some 95, (.pick (.t 91) (.t 94) (.c (.bool false))), none⟩] [3, 7, 8, 10, 14, 17, 19, 20, 21, 22, 23, 95] [] t11)
def bailifflaw14_ChainNames.t12 : DC := bailifflaw14_ChainNames.tX12 bailifflaw14_ChainNames.t0 bailifflaw14_ChainNames.t1 bailifflaw14_ChainNames.t2 bailifflaw14_ChainNames.t3 bailifflaw14_ChainNames.t4 bailifflaw14_ChainNames.t5 bailifflaw14_ChainNames.t6 bailifflaw14_ChainNames.t7 bailifflaw14_ChainNames.t8 bailifflaw14_ChainNames.t9 bailifflaw14_ChainNames.t10 bailifflaw14_ChainNames.t11 .skip .skip .skip .skip
def bailifflaw14_ChainNames.tX13 (t0 t1 t2 t3 t4 t5 t6 t7 t8 t9 t10 t11 t12 t13 t14 t15 : DC) : DC :=
  (.opsc [
    ⟨some 88, (.mv (.t 87)), none⟩,
    ⟨some 89, (.mv (.t 4)), some (88, true)⟩,
    ⟨some 90, (.pick (.t 88) (.t 89) (.c (.bool false))), none⟩] [3, 7, 8, 10, 14, 17, 19, 20, 21, 22, 23, 90] [] t12)
def bailifflaw14_ChainNames.t13 : DC := bailifflaw14_ChainNames.tX13 bailifflaw14_ChainNames.t0 bailifflaw14_ChainNames.t1 bailifflaw14_ChainNames.t2 bailifflaw14_ChainNames.t3 bailifflaw14_ChainNames.t4 bailifflaw14_ChainNames.t5 bailifflaw14_ChainNames.t6 bailifflaw14_ChainNames.t7 bailifflaw14_ChainNames.t8 bailifflaw14_ChainNames.t9 bailifflaw14_ChainNames.t10 bailifflaw14_ChainNames.t11 bailifflaw14_ChainNames.t12 .skip .skip .skip
def bailifflaw14_ChainNames.tX14 (t0 t1 t2 t3 t4 t5 t6 t7 t8 t9 t10 t11 t12 t13 t14 t15 : DC) : DC :=
  (.opsc [
    ⟨some 84, (.mv (.t 83)), none⟩,
    ⟨some 85, (.mv (.t 5)), some (84, true)⟩,
    ⟨some 86, (.bini .eql (.t 85) (.c (.int .i64 0))), some (84, true)⟩,
    ⟨some 87, (.pick (.t 84) (.t 86) (.c (.bool false))), none⟩] [3, 4, 7, 8, 10, 14, 17, 19, 20, 21, 22, 23, 87] [] t13)
def bailifflaw14_ChainNames.t14 : DC := bailifflaw14_ChainNames.tX14 bailifflaw14_ChainNames.t0 bailifflaw14_ChainNames.t1 bailifflaw14_ChainNames.t2 bailifflaw14_ChainNames.t3 bailifflaw14_ChainNames.t4 bailifflaw14_ChainNames.t5 bailifflaw14_ChainNames.t6 bailifflaw14_ChainNames.t7 bailifflaw14_ChainNames.t8 bailifflaw14_ChainNames.t9 bailifflaw14_ChainNames.t10 bailifflaw14_ChainNames.t11 bailifflaw14_ChainNames.t12 bailifflaw14_ChainNames.t13 .skip .skip
def bailifflaw14_ChainNames.tX15 (t0 t1 t2 t3 t4 t5 t6 t7 t8 t9 t10 t11 t12 t13 t14 t15 : DC) : DC :=
  (.opsc [
    ⟨some 80, (.mv (.t 79)), none⟩,
    ⟨some 81, (.mv (.t 2)), some (80, true)⟩,
    ⟨some 82, (.bini .eql (.t 81) (.c (.int .i64 0))), some (80, true)⟩,
    ⟨some 83, (.pick (.t 80) (.t 82) (.c (.bool false))), none⟩] [3, 4, 5, 7, 8, 10, 14, 17, 19, 20, 21, 22, 23, 83] [] t14)
def bailifflaw14_ChainNames.t15 : DC := bailifflaw14_ChainNames.tX15 bailifflaw14_ChainNames.t0 bailifflaw14_ChainNames.t1 bailifflaw14_ChainNames.t2 bailifflaw14_ChainNames.t3 bailifflaw14_ChainNames.t4 bailifflaw14_ChainNames.t5 bailifflaw14_ChainNames.t6 bailifflaw14_ChainNames.t7 bailifflaw14_ChainNames.t8 bailifflaw14_ChainNames.t9 bailifflaw14_ChainNames.t10 bailifflaw14_ChainNames.t11 bailifflaw14_ChainNames.t12 bailifflaw14_ChainNames.t13 bailifflaw14_ChainNames.t14 .skip
def bailifflaw14_ChainNames.bodyX (t0 t1 t2 t3 t4 t5 t6 t7 t8 t9 t10 t11 t12 t13 t14 t15 : DC) : DC :=
  (.seq
   (.ops [
     ⟨some 0, (.mv (.c (.bool false))), none⟩])
   (.seq
    (.ops [
      ⟨some 25, (.call 20 [] (.heap false) []), none⟩,
      ⟨some 26, (.call 119 [(.t 25), (.c (.int .i64 2))] (.p2 (.heap false) (.int .i64)) []), none⟩,
      ⟨some 24, (.mv (.t 26)), none⟩,
      ⟨some 27, (.ext (.t 24) 0), none⟩,
      ⟨some 28, (.ext (.t 24) 1), none⟩,
      ⟨some 1, (.alloc 1 [(.nsl .obj)] none), none⟩,
      ⟨none, (.store 1 (.t 1) (.t 27)), none⟩,
      ⟨some 2, (.mv (.t 28)), none⟩])
    (.seq
     (.ops [
       ⟨some 30, (.load (some 1) (.t 1)), none⟩,
       ⟨some 31, (.call 115 [(.t 30), (.c (.int .i64 3))] (.p3 (.lst false .int) .bool (.int .i64)) []), none⟩,
       ⟨some 29, (.mv (.t 31)), none⟩,
       ⟨some 32, (.ext (.t 29) 0), none⟩,
       ⟨some 33, (.ext (.t 29) 1), none⟩,
       ⟨some 34, (.ext (.t 29) 2), none⟩,
       ⟨some 3, (.mv (.t 32)), none⟩,
       ⟨some 4, (.mv (.t 33)), none⟩,
       ⟨some 5, (.mv (.t 34)), none⟩])
     (.seq
      (.ops [
        ⟨some 36, (.load (some 1) (.t 1)), none⟩,
        ⟨some 37, (.call 116 [(.t 36), (.c (.int .i64 3))] (.p2 .bool (.int .i64)) []), none⟩,
        ⟨some 35, (.mv (.t 37)), none⟩,
        ⟨some 38, (.ext (.t 35) 0), none⟩,
        ⟨some 39, (.ext (.t 35) 1), none⟩,
        ⟨some 6, (.mv (.t 38)), none⟩,
        ⟨some 7, (.mv (.t 39)), none⟩])
      (.seq
       (.ops [
         ⟨some 41, (.load (some 1) (.t 1)), none⟩,
         ⟨some 42, (.call 117 [(.t 41), (.c (.int .i64 3))] (.p2 .bool (.int .i64)) []), none⟩,
         ⟨some 40, (.mv (.t 42)), none⟩,
         ⟨some 43, (.ext (.t 40) 0), none⟩,
         ⟨some 44, (.ext (.t 40) 1), none⟩,
         ⟨some 8, (.mv (.t 43)), none⟩,
         ⟨some 9, (.mv (.t 44)), none⟩])
       (.seq
        (.ops [
          ⟨some 46, (.load (some 1) (.t 1)), none⟩,
          ⟨some 47, (.call 117 [(.t 46), (.c (.int .i64 2))] (.p2 .bool (.int .i64)) []), none⟩,
          ⟨some 45, (.mv (.t 47)), none⟩,
          ⟨some 48, (.ext (.t 45) 0), none⟩,
          ⟨some 49, (.ext (.t 45) 1), none⟩,
          ⟨some 10, (.mv (.t 48)), none⟩,
          ⟨some 11, (.mv (.t 49)), none⟩])
        (.seq
         (.ops [
           ⟨some 51, (.load (some 1) (.t 1)), none⟩,
           ⟨some 52, (.call 118 [(.t 51), (.c (.int .i64 2)), (.c (.int .i64 0))] (.p3 (.heap false) (.int .i64) (.int .i64)) []), none⟩,
           ⟨some 50, (.mv (.t 52)), none⟩,
           ⟨some 53, (.ext (.t 50) 0), none⟩,
           ⟨some 54, (.ext (.t 50) 1), none⟩,
           ⟨some 55, (.ext (.t 50) 2), none⟩,
           ⟨some 12, (.alloc 12 [(.nsl .obj)] none), none⟩,
           ⟨none, (.store 1 (.t 12) (.t 53)), none⟩,
           ⟨some 13, (.mv (.t 54)), none⟩,
           ⟨some 14, (.mv (.t 55)), none⟩])
         (.seq
          (.ops [
            ⟨some 57, (.call 22 [] (.heap false) []), none⟩,
            ⟨some 58, (.call 118 [(.t 57), (.c (.int .i64 0)), (.c (.int .i64 5))] (.p3 (.heap false) (.int .i64) (.int .i64)) []), none⟩,
            ⟨some 56, (.mv (.t 58)), none⟩,
            ⟨some 59, (.ext (.t 56) 0), none⟩,
            ⟨some 60, (.ext (.t 56) 1), none⟩,
            ⟨some 61, (.ext (.t 56) 2), none⟩,
            ⟨some 15, (.alloc 15 [(.nsl .obj)] none), none⟩,
            ⟨none, (.store 1 (.t 15) (.t 59)), none⟩,
            ⟨some 16, (.mv (.t 60)), none⟩,
            ⟨some 17, (.mv (.t 61)), none⟩])
          (.seq
           (.ops [
             ⟨some 63, (.call 22 [] (.heap false) []), none⟩,
             ⟨some 64, (.call 119 [(.t 63), (.c (.int .i64 0))] (.p2 (.heap false) (.int .i64)) []), none⟩,
             ⟨some 62, (.mv (.t 64)), none⟩,
             ⟨some 65, (.ext (.t 62) 0), none⟩,
             ⟨some 66, (.ext (.t 62) 1), none⟩,
             ⟨some 18, (.alloc 18 [(.nsl .obj)] none), none⟩,
             ⟨none, (.store 1 (.t 18) (.t 65)), none⟩,
             ⟨some 19, (.mv (.t 66)), none⟩])
           (.seq
            (.ops [
              ⟨some 68, (.call 22 [] (.heap false) []), none⟩,
              ⟨some 69, (.call 114 [(.t 68), (.c (.int .i64 0))] (.p2 (.int .i64) (.int .i64)) []), none⟩,
              ⟨some 67, (.mv (.t 69)), none⟩,
              ⟨some 70, (.ext (.t 67) 0), none⟩,
              ⟨some 71, (.ext (.t 67) 1), none⟩,
              ⟨some 20, (.mv (.t 70)), none⟩,
              ⟨some 21, (.mv (.t 71)), none⟩])
            (.seq
             (.ops [
               ⟨some 73, (.call 22 [] (.heap false) []), none⟩,
               ⟨some 74, (.call 116 [(.t 73), (.c (.int .i64 0))] (.p2 .bool (.int .i64)) []), none⟩,
               ⟨some 72, (.mv (.t 74)), none⟩,
               ⟨some 75, (.ext (.t 72) 0), none⟩,
               ⟨some 76, (.ext (.t 72) 1), none⟩,
               ⟨some 22, (.mv (.t 75)), none⟩,
               ⟨some 23, (.mv (.t 76)), none⟩])
             (.seq
  (.opsc [
    ⟨some 77, (.mv (.c (.bool true))), none⟩,
    ⟨some 78, (.call 19 [] .bool []), some (77, true)⟩,
    ⟨some 79, (.pick (.t 77) (.t 78) (.c (.bool false))), none⟩] [2, 3, 4, 5, 7, 8, 10, 14, 17, 19, 20, 21, 22, 23, 79] [] t15)
              .ret))))))))))))
def bailifflaw14_ChainNames.body : DC := bailifflaw14_ChainNames.bodyX bailifflaw14_ChainNames.t0 bailifflaw14_ChainNames.t1 bailifflaw14_ChainNames.t2 bailifflaw14_ChainNames.t3 bailifflaw14_ChainNames.t4 bailifflaw14_ChainNames.t5 bailifflaw14_ChainNames.t6 bailifflaw14_ChainNames.t7 bailifflaw14_ChainNames.t8 bailifflaw14_ChainNames.t9 bailifflaw14_ChainNames.t10 bailifflaw14_ChainNames.t11 bailifflaw14_ChainNames.t12 bailifflaw14_ChainNames.t13 bailifflaw14_ChainNames.t14 bailifflaw14_ChainNames.t15
def bailifflaw14_ChainNames : FD := ⟨0, [.tmp 0], bailifflaw14_ChainNames.body⟩
/-- 19 bailiff/bailifflaw14.alive -/
def bailifflaw14_alive.tX0 (t0 t1 t2 t3 t4 t5 : DC) : DC :=
  (.ops [
    ⟨some 0, (.mv (.t 47)), none⟩])
def bailifflaw14_alive.t0 : DC := bailifflaw14_alive.tX0 .skip .skip .skip .skip .skip .skip
def bailifflaw14_alive.tX1 (t0 t1 t2 t3 t4 t5 : DC) : DC :=
  (.opsc [
    ⟨some 44, (.mv (.t 43)), none⟩,
    ⟨some 45, (.mv (.t 4)), some (44, true)⟩,
    ⟨some 46, (.bini .eql (.t 45) (.c (.int .i64 2))), some (44, true)⟩,
    ⟨some 47, (.pick (.t 44) (.t 46) (.c (.bool false))), none⟩] [47] [] t0)
def bailifflaw14_alive.t1 : DC := bailifflaw14_alive.tX1 bailifflaw14_alive.t0 .skip .skip .skip .skip .skip
def bailifflaw14_alive.tX2 (t0 t1 t2 t3 t4 t5 : DC) : DC :=
  (.opsc [
    ⟨some 40, (.mv (.t 39)), none⟩,
    ⟨some 41, (.mv (.t 5)), some (40, true)⟩,
    ⟨some 42, (.bini .eql (.t 41) (.c (.int .i64 0))), some (40, true)⟩,
    ⟨some 43, (.pick (.t 40) (.t 42) (.c (.bool false))), none⟩] [4, 43] [] t1)
def bailifflaw14_alive.t2 : DC := bailifflaw14_alive.tX2 bailifflaw14_alive.t0 bailifflaw14_alive.t1 .skip .skip .skip .skip
def bailifflaw14_alive.tX3 (t0 t1 t2 t3 t4 t5 : DC) : DC :=
  (.opsc [
    ⟨some 34, (.mv (.t 33)), none⟩,
    ⟨some 35, (.mv (.t 1)), some (34, true)⟩,
    ⟨some 36, (.iaddr false 0 1 (.t 35) (.c (.int .i64 1))), some (34, true)⟩,
    ⟨some 37, (.load none (.t 36)), some (34, true)⟩,
    ⟨some 38, (.bini .eql (.t 37) (.c (.int .i64 0))), some (34, true)⟩,
    ⟨some 39, (.pick (.t 34) (.t 38) (.c (.bool false))), none⟩] [4, 5, 39] [] t2)
def bailifflaw14_alive.t3 : DC := bailifflaw14_alive.tX3 bailifflaw14_alive.t0 bailifflaw14_alive.t1 bailifflaw14_alive.t2 .skip .skip .skip
def bailifflaw14_alive.tX4 (t0 t1 t2 t3 t4 t5 : DC) : DC :=
  (.opsc [
    ⟨some 28, (.mv (.t 27)), none⟩,
    ⟨some 29, (.mv (.t 1)), some (28, true)⟩,
    ⟨some 30, (.iaddr false 0 1 (.t 29) (.c (.int .i64 0))), some (28, true)⟩,
    ⟨some 31, (.load none (.t 30)), some (28, true)⟩,
    ⟨some 32, (.bini .eql (.t 31) (.c (.int .i64 2))), some (28, true)⟩,
    ⟨some 33, (.pick (.t 28) (.t 32) (.c (.bool false))), none⟩] [1, 4, 5, 33] [] t3)
def bailifflaw14_alive.t4 : DC := bailifflaw14_alive.tX4 bailifflaw14_alive.t0 bailifflaw14_alive.t1 bailifflaw14_alive.t2 bailifflaw14_alive.t3 .skip .skip
def bailifflaw14_alive.tX5 (t0 t1 t2 t3 t4 t5 : DC) : DC :=
  (.opsc [
    ⟨some 23, (.mv (.t 22)), none⟩,
    ⟨some 24, (.mv (.t 1)), some (23, true)⟩,
    ⟨some 25, (.len false (.t 24)), some (23, true)⟩,
    ⟨some 26, (.bini .eql (.t 25) (.c (.int .i64 2))), some (23, true)⟩,
    ⟨some 27, (.pick (.t 23) (.t 26) (.c (.bool false))), none⟩] [1, 4, 5, 27] [] t4)
def bailifflaw14_alive.t5 : DC := bailifflaw14_alive.tX5 bailifflaw14_alive.t0 bailifflaw14_alive.t1 bailifflaw14_alive.t2 bailifflaw14_alive.t3 bailifflaw14_alive.t4 .skip
def bailifflaw14_alive.bodyX (t0 t1 t2 t3 t4 t5 : DC) : DC :=
  (.seq
   (.ops [
     ⟨some 0, (.mv (.c (.bool false))), none⟩])
   (.seq
    (.ops [
      ⟨some 7, (.call 20 [] (.heap false) []), none⟩,
      ⟨some 8, (.call 115 [(.t 7), (.c (.int .i64 3))] (.p3 (.lst false .int) .bool (.int .i64)) []), none⟩,
      ⟨some 6, (.mv (.t 8)), none⟩,
      ⟨some 9, (.ext (.t 6) 0), none⟩,
      ⟨some 10, (.ext (.t 6) 1), none⟩,
      ⟨some 11, (.ext (.t 6) 2), none⟩,
      ⟨some 1, (.mv (.t 9)), none⟩,
      ⟨some 2, (.mv (.t 10)), none⟩,
      ⟨some 3, (.mv (.t 11)), none⟩])
    (.seq
     (.ops [
       ⟨some 13, (.call 20 [] (.heap false) []), none⟩,
       ⟨some 14, (.call 114 [(.t 13), (.c (.int .i64 3))] (.p2 (.int .i64) (.int .i64)) []), none⟩,
       ⟨some 12, (.mv (.t 14)), none⟩,
       ⟨some 15, (.ext (.t 12) 0), none⟩,
       ⟨some 16, (.ext (.t 12) 1), none⟩,
       ⟨some 4, (.mv (.t 15)), none⟩,
       ⟨some 5, (.mv (.t 16)), none⟩])
     (.seq
  (.opsc [
    ⟨some 17, (.mv (.t 3)), none⟩,
    ⟨some 18, (.bini .eql (.t 17) (.c (.int .i64 0))), none⟩,
    ⟨some 19, (.mv (.t 18)), none⟩,
    ⟨some 20, (.mv (.t 2)), some (19, true)⟩,
    ⟨some 21, (.not (.t 20)), some (19, true)⟩,
    ⟨some 22, (.pick (.t 19) (.t 21) (.c (.bool false))), none⟩] [1, 4, 5, 22] [] t5)
      .ret))))
def bailifflaw14_alive.body : DC := bailifflaw14_alive.bodyX bailifflaw14_alive.t0 bailifflaw14_alive.t1 bailifflaw14_alive.t2 bailifflaw14_alive.t3 bailifflaw14_alive.t4 bailifflaw14_alive.t5
def bailifflaw14_alive : FD := ⟨0, [.tmp 0], bailifflaw14_alive.body⟩
/-- 20 bailiff/bailifflaw14.four -/
def bailifflaw14_four.bodyX : DC :=
  (.seq
   (.ops [
     ⟨some 0, (.alloc 0 [(.nsl .obj)] none), none⟩])
   (.seq
    (.ops [
      ⟨some 5, (.call 22 [] (.heap false) []), none⟩,
      ⟨some 6, (.call 118 [(.t 5), (.c (.int .i64 0)), (.c (.int .i64 1))] (.p3 (.heap false) (.int .i64) (.int .i64)) []), none⟩,
      ⟨some 4, (.mv (.t 6)), none⟩,
      ⟨some 7, (.ext (.t 4) 0), none⟩,
      ⟨some 8, (.ext (.t 4) 1), none⟩,
      ⟨some 9, (.ext (.t 4) 2), none⟩,
      ⟨some 1, (.alloc 1 [(.nsl .obj)] none), none⟩,
      ⟨none, (.store 1 (.t 1) (.t 7)), none⟩,
      ⟨some 2, (.mv (.t 8)), none⟩,
      ⟨some 3, (.mv (.t 9)), none⟩])
    (.seq
     (.ops [
       ⟨some 11, (.load (some 1) (.t 1)), none⟩,
       ⟨some 12, (.call 118 [(.t 11), (.c (.int .i64 2)), (.c (.int .i64 0))] (.p3 (.heap false) (.int .i64) (.int .i64)) []), none⟩,
       ⟨some 10, (.mv (.t 12)), none⟩,
       ⟨some 13, (.ext (.t 10) 0), none⟩,
       ⟨some 14, (.ext (.t 10) 1), none⟩,
       ⟨some 15, (.ext (.t 10) 2), none⟩,
       ⟨none, (.store 1 (.t 1) (.t 13)), none⟩])
     (.seq
      (.ops [
        ⟨some 16, (.load (some 1) (.t 1)), none⟩,
        ⟨none, (.store 1 (.t 0) (.t 16)), none⟩])
      .ret))))
def bailifflaw14_four.body : DC := bailifflaw14_four.bodyX
def bailifflaw14_four : FD := ⟨0, [.cell 0 (some 1)], bailifflaw14_four.body⟩
/-- 22 bailiff/bailifflaw14.two -/
def bailifflaw14_two.bodyX : DC :=
  (.seq
   (.ops [
     ⟨some 0, (.alloc 0 [(.nsl .obj)] none), none⟩])
   (.seq
    (.ops [
      ⟨some 2, (.build [(.int .u8 0), (.float 0), (.str (bs [])), (.int .i64 0)] [((0, 1), (.c (.int .u8 1)))]), none⟩,
      ⟨some 3, (.build [(.int .u8 0), (.int .u8 0), (.float 0), (.str (bs [])), (.int .i64 0), (.bool false), (.nsl .prp), (.int .u8 0), (.float 0), (.str (bs [])), (.int .i64 0), (.int .u8 0), (.float 0), (.str (bs [])), (.int .i64 0), (.str (bs [])), (.bool false), (.bool false)] [((0, 1), (.c (.int .u8 1))), ((1, 4), (.t 2)), ((5, 1), (.c (.bool true)))]), none⟩,
      ⟨some 1, (.alloc 1 [(.int .u8 0), (.int .u8 0), (.float 0), (.str (bs [])), (.int .i64 0), (.bool false), (.nsl .prp), (.int .u8 0), (.float 0), (.str (bs [])), (.int .i64 0), (.int .u8 0), (.float 0), (.str (bs [])), (.int .i64 0), (.str (bs [])), (.bool false), (.bool false)] none), none⟩,
      ⟨none, (.store 18 (.t 1) (.t 3)), none⟩])
    (.seq
     (.ops [
       ⟨some 4, (.load (some 18) (.t 1)), none⟩,
       ⟨some 5, (.load (some 18) (.t 1)), none⟩,
       ⟨some 6, (.bslice none .obj (List.replicate 2 (⟨0, ⟨0, 0, bs [], 0⟩, false, [], ⟨0, 0, bs [], 0⟩, ⟨0, 0, bs [], 0⟩, bs [], false, false⟩ : Obj)) [(0, (.t 4)), (1, (.t 5))]), none⟩,
       ⟨some 7, (.build [(.nsl .obj)] [((0, 1), (.t 6))]), none⟩,
       ⟨none, (.store 1 (.t 0) (.t 7)), none⟩])
     .ret)))
def bailifflaw14_two.body : DC := bailifflaw14_two.bodyX
def bailifflaw14_two : FD := ⟨0, [.cell 0 (some 1)], bailifflaw14_two.body⟩
/-- 114 bailiff/chain.Deep -/
def chain_Deep.bodyX : DC :=
  (.seq
   (.ops [
     ⟨some 2, (.box 2 (.t 0)), none⟩,
     ⟨some 4, (.mv (.c (.int .i64 0))), none⟩,
     ⟨some 5, (.mv (.c (.int .i64 0))), none⟩])
   (.seq
    (.ops [
      ⟨some 10, (.load (some 1) (.t 2)), none⟩,
      ⟨some 11, (.mv (.t 1)), none⟩,
      ⟨some 12, (.call 115 [(.t 10), (.t 11)] (.p3 (.lst false .int) .bool (.int .i64)) []), none⟩,
      ⟨some 9, (.mv (.t 12)), none⟩,
      ⟨some 13, (.ext (.t 9) 0), none⟩,
      ⟨some 14, (.ext (.t 9) 1), none⟩,
      ⟨some 15, (.ext (.t 9) 2), none⟩,
      ⟨some 6, (.mv (.t 13)), none⟩,
      ⟨some 7, (.mv (.t 14)), none⟩,
      ⟨some 8, (.mv (.t 15)), none⟩])
    (.seq
     (.seq
      (.ops [
        ⟨some 16, (.mv (.t 7)), none⟩])
      (.cond (.t 16)
       (.seq
        (.ops [
          ⟨some 17, (.mv (.t 6)), none⟩,
          ⟨some 18, (.len false (.t 17)), none⟩,
          ⟨some 19, (.bini .add (.t 18) (.c (.int .i64 1))), none⟩,
          ⟨some 20, (.mv (.t 8)), none⟩,
          ⟨some 4, (.mv (.t 19)), none⟩,
          ⟨some 5, (.mv (.t 20)), none⟩])
        .ret)
       .skip))
     (.seq
      (.ops [
        ⟨some 21, (.mv (.t 6)), none⟩,
        ⟨some 22, (.len false (.t 21)), none⟩,
        ⟨some 23, (.mv (.t 8)), none⟩,
        ⟨some 4, (.mv (.t 22)), none⟩,
        ⟨some 5, (.mv (.t 23)), none⟩])
      .ret))))
def chain_Deep.body : DC := chain_Deep.bodyX
def chain_Deep : FD := ⟨2, [.tmp 4, .tmp 5], chain_Deep.body⟩
/-- 115 bailiff/chain.Down -/
def chain_Down.bX0 (t0 : DC) : DC :=
  (.block 1
   (.seq
    (.ops [
      ⟨some 16, (.faddr 0 (.t 2)), none⟩,
      ⟨some 17, (.load none (.t 16)), none⟩,
      ⟨some 18, (.mv (.t 1)), none⟩,
      ⟨some 19, (.iaddr false 0 18 (.t 17) (.t 18)), none⟩,
      ⟨some 20, (.load (some 18) (.t 19)), none⟩,
      ⟨some 8, (.alloc 8 [(.int .u8 0), (.int .u8 0), (.float 0), (.str (bs [])), (.int .i64 0), (.bool false), (.nsl .prp), (.int .u8 0), (.float 0), (.str (bs [])), (.int .i64 0), (.int .u8 0), (.float 0), (.str (bs [])), (.int .i64 0), (.str (bs [])), (.bool false), (.bool false)] none), none⟩,
      ⟨none, (.store 18 (.t 8) (.t 20)), none⟩])
    (.seq
     (.block 2
      (.seq
       (.ops [
         ⟨some 22, (.load (some 18) (.t 8)), none⟩,
         ⟨some 23, (.call 121 [(.t 22)] .bool []), none⟩,
         ⟨some 21, (.mv (.t 23)), none⟩])
       (.cond (.t 21)
        (.seq
         (.ops [
           ⟨some 5, (.mv (.c (.bool true))), none⟩])
         (.exit 0))
        (.seq
         (.ops [
           ⟨some 25, (.load (some 18) (.t 8)), none⟩,
           ⟨some 26, (.call 122 [(.t 25)] .bool []), none⟩,
           ⟨some 27, (.not (.t 26)), none⟩,
           ⟨some 24, (.mv (.t 27)), none⟩])
         (.cond (.t 24)
          (.exit 0)
          .skip)))))
     (.seq
      (.ops [
        ⟨some 28, (.faddr 7 (.t 8)), none⟩,
        ⟨some 29, (.faddr 3 (.t 28)), none⟩,
        ⟨some 30, (.load none (.t 29)), none⟩,
        ⟨some 1, (.mv (.t 30)), none⟩])
      (.ops [
        ⟨some 31, (.mv (.t 4)), none⟩,
        ⟨some 32, (.mv (.t 1)), none⟩,
        ⟨some 33, (.bslice none .int (List.replicate 1 (0 : Int)) [(0, (.t 32))]), none⟩,
        ⟨some 34, (.append 1004 .int (.t 31) (.t 33)), none⟩,
        ⟨some 4, (.mv (.t 34)), none⟩])))))
def chain_Down.tX0 (t0 : DC) : DC :=
       (.seq
        (.ops [
          ⟨some 35, (.mv (.t 4)), none⟩,
          ⟨some 36, (.mv (.t 5)), none⟩,
          ⟨some 4, (.mv (.t 35)), none⟩,
          ⟨some 5, (.mv (.t 36)), none⟩,
          ⟨some 6, (.mv (.c (.int .i64 0))), none⟩])
        .ret)
def chain_Down.t0 : DC := chain_Down.tX0 .skip
def chain_Down.sX0 (t : DC) : DC := .kp [4, 5] [1004] t
def chain_Down.bodyX (t0 : DC) : DC :=
  (.seq
   (.ops [
     ⟨some 2, (.box 2 (.t 0)), none⟩,
     ⟨some 4, (.mkrow 1004 .int), none⟩,
     ⟨some 5, (.mv (.c (.bool false))), none⟩,
     ⟨some 6, (.mv (.c (.int .i64 0))), none⟩])
   (.sc
    (.seq
     (.seq
      (.ops [
        ⟨some 9, (.load (some 1) (.t 2)), none⟩,
        ⟨some 10, (.mv (.t 1)), none⟩,
        ⟨some 11, (.bslice none .int (List.replicate 1 (0 : Int)) [(0, (.t 10))]), none⟩,
        ⟨some 12, (.call 120 [(.t 9), (.t 11)] (.int .i64) []), none⟩,
        ⟨some 7, (.mv (.t 12)), none⟩])
      (.seq
       (.ops [
         ⟨some 13, (.mv (.t 7)), none⟩,
         ⟨some 14, (.bini .neq (.t 13) (.c (.int .i64 0))), none⟩])
       (.cond (.t 14)
        (.seq
         (.ops [
           ⟨some 15, (.mv (.t 7)), none⟩,
           ⟨some 4, (.mkrow 1004 .int), none⟩,
           ⟨some 5, (.mv (.c (.bool false))), none⟩,
           ⟨some 6, (.mv (.t 15)), none⟩])
         .ret)
        .skip)))
     (.seq
      .skip
      (.seq
       (.block 0
        (.loop [1, 2, 4, 5] [2, 1004] (chain_Down.bX0 t0)))
       (chain_Down.sX0 t0))))))
def chain_Down.body : DC := chain_Down.bodyX chain_Down.t0
def chain_Down : FD := ⟨2, [.tmp 4, .tmp 5, .tmp 6], chain_Down.body⟩
/-- 116 bailiff/chain.IsArray -/
def chain_IsArray.tX0 (t0 : DC) : DC :=
       (.cond (.t 24)
        (.seq
         (.ops [
           ⟨some 4, (.mv (.c (.bool false))), none⟩,
           ⟨some 5, (.mv (.c (.int .i64 140))), none⟩])
         .ret)
        .skip)
def chain_IsArray.t0 : DC := chain_IsArray.tX0 .skip
def chain_IsArray.sX0 (t : DC) : DC := .kp [1, 2, 6, 24] [2] t
def chain_IsArray.bodyX (t0 : DC) : DC :=
  (.seq
   (.ops [
     ⟨some 2, (.box 2 (.t 0)), none⟩,
     ⟨some 4, (.mv (.c (.bool false))), none⟩,
     ⟨some 5, (.mv (.c (.int .i64 0))), none⟩])
   (.seq
    (.ops [
      ⟨some 10, (.load (some 1) (.t 2)), none⟩,
      ⟨some 11, (.mv (.t 1)), none⟩,
      ⟨some 12, (.call 115 [(.t 10), (.t 11)] (.p3 (.lst false .int) .bool (.int .i64)) []), none⟩,
      ⟨some 9, (.mv (.t 12)), none⟩,
      ⟨some 13, (.ext (.t 9) 0), none⟩,
      ⟨some 14, (.ext (.t 9) 1), none⟩,
      ⟨some 15, (.ext (.t 9) 2), none⟩,
      ⟨some 6, (.mv (.t 13)), none⟩,
      ⟨some 7, (.mv (.t 14)), none⟩,
      ⟨some 8, (.mv (.t 15)), none⟩])
    (.seq
     (.seq
      (.ops [
        ⟨some 16, (.mv (.t 8)), none⟩,
        ⟨some 17, (.bini .neq (.t 16) (.c (.int .i64 0))), none⟩])
      (.cond (.t 17)
       (.seq
        (.ops [
          ⟨some 18, (.mv (.t 8)), none⟩,
          ⟨some 4, (.mv (.c (.bool false))), none⟩,
          ⟨some 5, (.mv (.t 18)), none⟩])
        .ret)
       .skip))
     (.seq
      (.seq
       (.ops [
         ⟨some 19, (.mv (.t 7)), none⟩,
         ⟨some 20, (.mv (.t 19)), none⟩,
         ⟨some 21, (.mv (.t 6)), some (20, false)⟩,
         ⟨some 22, (.len false (.t 21)), some (20, false)⟩,
         ⟨some 23, (.bini .gtr (.t 22) (.c (.int .i64 64))), some (20, false)⟩,
         ⟨some 24, (.pick (.t 20) (.c (.bool true)) (.t 23)), none⟩])
       (chain_IsArray.sX0 t0))
      (.seq
       (.draw [
         ⟨some 25, (.faddr 0 (.t 2)), none⟩,
         ⟨some 26, (.load none (.t 25)), none⟩,
         ⟨some 27, (.mv (.t 1)), none⟩,
         ⟨some 28, (.bslicef .int (List.replicate 1 (0 : Int)) [(0, (.t 27))]), none⟩,
         ⟨some 29, (.mv (.t 6)), none⟩,
         ⟨some 30, (.appf .int (.t 28) (.t 29)), none⟩,
         ⟨some 31, (.mv (.t 6)), none⟩,
         ⟨some 32, (.len false (.t 31)), none⟩,
         ⟨some 33, (.iaddr false 0 1 (.t 30) (.t 32)), none⟩,
         ⟨some 34, (.load none (.t 33)), none⟩,
         ⟨some 35, (.iaddr false 0 18 (.t 26) (.t 34)), none⟩,
         ⟨some 36, (.faddr 0 (.t 35)), none⟩,
         ⟨some 37, (.load none (.t 36)), none⟩,
         ⟨some 38, (.bini .eql (.t 37) (.c (.int .u8 2))), none⟩,
         ⟨some 4, (.mv (.t 38)), none⟩,
         ⟨some 5, (.mv (.c (.int .i64 0))), none⟩] [[], [0], [], [2], [], [2, 3, 4], [], [6], [2, 3, 4, 5, 6, 7], [2, 3, 4, 5, 6, 7, 8], [0, 1, 2, 3, 4, 5, 6, 7, 8, 9], [0, 1, 2, 3, 4, 5, 6, 7, 8, 9, 10], [0, 1, 2, 3, 4, 5, 6, 7, 8, 9, 10, 11], [0, 1, 2, 3, 4, 5, 6, 7, 8, 9, 10, 11, 12], [0, 1, 2, 3, 4, 5, 6, 7, 8, 9, 10, 11, 12, 13], [0, 1, 2, 3, 4, 5, 6, 7, 8, 9, 10, 11, 12, 13, 14]])
       .ret)))))
def chain_IsArray.body : DC := chain_IsArray.bodyX chain_IsArray.t0
def chain_IsArray : FD := ⟨2, [.tmp 4, .tmp 5], chain_IsArray.body⟩
/-- 117 bailiff/chain.Live -/
def chain_Live.bodyX : DC :=
  (.seq
   (.ops [
     ⟨some 2, (.box 2 (.t 0)), none⟩,
     ⟨some 4, (.mv (.c (.bool false))), none⟩,
     ⟨some 5, (.mv (.c (.int .i64 0))), none⟩])
   (.seq
    (.seq
     (.ops [
       ⟨some 7, (.load (some 1) (.t 2)), none⟩,
       ⟨some 8, (.mv (.t 1)), none⟩,
       ⟨some 9, (.bslice none .int (List.replicate 1 (0 : Int)) [(0, (.t 8))]), none⟩,
       ⟨some 10, (.call 120 [(.t 7), (.t 9)] (.int .i64) []), none⟩,
       ⟨some 6, (.mv (.t 10)), none⟩])
     (.seq
      (.ops [
        ⟨some 11, (.mv (.t 6)), none⟩,
        ⟨some 12, (.bini .neq (.t 11) (.c (.int .i64 0))), none⟩])
      (.cond (.t 12)
       (.seq
        (.ops [
          ⟨some 13, (.mv (.t 6)), none⟩,
          ⟨some 4, (.mv (.c (.bool false))), none⟩,
          ⟨some 5, (.mv (.t 13)), none⟩])
        .ret)
       .skip)))
    (.seq
     (.ops [
       ⟨some 14, (.faddr 0 (.t 2)), none⟩,
       ⟨some 15, (.load none (.t 14)), none⟩,
       ⟨some 16, (.mv (.t 1)), none⟩,
       ⟨some 17, (.iaddr false 0 18 (.t 15) (.t 16)), none⟩,
       ⟨some 18, (.load (some 18) (.t 17)), none⟩,
       ⟨some 19, (.call 122 [(.t 18)] .bool []), none⟩,
       ⟨some 4, (.mv (.t 19)), none⟩,
       ⟨some 5, (.mv (.c (.int .i64 0))), none⟩])
     .ret)))
def chain_Live.body : DC := chain_Live.bodyX
def chain_Live : FD := ⟨2, [.tmp 4, .tmp 5], chain_Live.body⟩
/-- 118 bailiff/chain.Make -/
def chain_Make.tX0 (t0 : DC) : DC :=
       (.cond (.t 35)
        (.seq
         (.ops [
           ⟨some 36, (.build [(.nsl .obj)] []), none⟩,
           ⟨none, (.store 1 (.t 6) (.t 36)), none⟩,
           ⟨some 7, (.mv (.c (.int .i64 0))), none⟩,
           ⟨some 8, (.mv (.c (.int .i64 140))), none⟩])
         .ret)
        .skip)
def chain_Make.t0 : DC := chain_Make.tX0 .skip
def chain_Make.sX0 (t : DC) : DC := .kp [1, 2, 3, 6, 10, 35] [3, 6, 10] t
def chain_Make.bodyX (t0 : DC) : DC :=
  (.seq
   (.ops [
     ⟨some 3, (.box 3 (.t 0)), none⟩,
     ⟨some 6, (.alloc 6 [(.nsl .obj)] none), none⟩,
     ⟨some 7, (.mv (.c (.int .i64 0))), none⟩,
     ⟨some 8, (.mv (.c (.int .i64 0))), none⟩])
   (.seq
    (.seq
     (.ops [
       ⟨some 12, (.load (some 1) (.t 3)), none⟩,
       ⟨some 13, (.mv (.t 1)), none⟩,
       ⟨some 14, (.mv (.t 2)), none⟩,
       ⟨some 15, (.bslice none .int (List.replicate 2 (0 : Int)) [(0, (.t 13)), (1, (.t 14))]), none⟩,
       ⟨some 16, (.call 120 [(.t 12), (.t 15)] (.int .i64) []), none⟩,
       ⟨some 9, (.mv (.t 16)), none⟩])
     (.seq
      (.ops [
        ⟨some 17, (.mv (.t 9)), none⟩,
        ⟨some 18, (.bini .neq (.t 17) (.c (.int .i64 0))), none⟩])
      (.cond (.t 18)
       (.seq
        (.ops [
          ⟨some 19, (.build [(.nsl .obj)] []), none⟩,
          ⟨some 20, (.mv (.t 9)), none⟩,
          ⟨none, (.store 1 (.t 6) (.t 19)), none⟩,
          ⟨some 7, (.mv (.c (.int .i64 0))), none⟩,
          ⟨some 8, (.mv (.t 20)), none⟩])
        .ret)
       .skip)))
    (.seq
     (.ops [
       ⟨some 21, (.faddr 0 (.t 3)), none⟩,
       ⟨some 22, (.load none (.t 21)), none⟩,
       ⟨some 23, (.mv (.t 1)), none⟩,
       ⟨some 24, (.iaddr false 0 18 (.t 22) (.t 23)), none⟩,
       ⟨some 25, (.load (some 18) (.t 24)), none⟩,
       ⟨some 10, (.alloc 10 [(.int .u8 0), (.int .u8 0), (.float 0), (.str (bs [])), (.int .i64 0), (.bool false), (.nsl .prp), (.int .u8 0), (.float 0), (.str (bs [])), (.int .i64 0), (.int .u8 0), (.float 0), (.str (bs [])), (.int .i64 0), (.str (bs [])), (.bool false), (.bool false)] none), none⟩,
       ⟨none, (.store 18 (.t 10) (.t 25)), none⟩])
     (.seq
      (.seq
       (.ops [
         ⟨some 26, (.load (some 18) (.t 10)), none⟩,
         ⟨some 27, (.call 121 [(.t 26)] .bool []), none⟩,
         ⟨some 28, (.mv (.t 27)), none⟩,
         ⟨some 29, (.faddr 0 (.t 3)), some (28, false)⟩,
         ⟨some 30, (.load none (.t 29)), some (28, false)⟩,
         ⟨some 31, (.mv (.t 2)), some (28, false)⟩,
         ⟨some 32, (.iaddr false 0 18 (.t 30) (.t 31)), some (28, false)⟩,
         ⟨some 33, (.load (some 18) (.t 32)), some (28, false)⟩,
         ⟨some 34, (.call 121 [(.t 33)] .bool []), some (28, false)⟩,
         ⟨some 35, (.pick (.t 28) (.c (.bool true)) (.t 34)), none⟩])
       (chain_Make.sX0 t0))
      (.seq
       (.draw [
         ⟨some 37, (.build [(.int .u8 0), (.float 0), (.str (bs [])), (.int .i64 0)] [((0, 1), (.c (.int .u8 1)))]), none⟩,
         ⟨some 38, (.load (some 1) (.t 3)), none⟩,
         ⟨some 39, (.mv (.t 1)), none⟩,
         ⟨some 40, (.call 123 [(.t 38), (.t 39)] .val []), none⟩,
         ⟨some 41, (.load (some 1) (.t 3)), none⟩,
         ⟨some 42, (.mv (.t 2)), none⟩,
         ⟨some 43, (.call 123 [(.t 41), (.t 42)] .val []), none⟩,
         ⟨some 44, (.faddr 16 (.t 10)), none⟩,
         ⟨some 45, (.load none (.t 44)), none⟩,
         ⟨some 46, (.faddr 17 (.t 10)), none⟩,
         ⟨some 47, (.load none (.t 46)), none⟩,
         ⟨some 48, (.build [(.int .u8 0), (.int .u8 0), (.float 0), (.str (bs [])), (.int .i64 0), (.bool false), (.nsl .prp), (.int .u8 0), (.float 0), (.str (bs [])), (.int .i64 0), (.int .u8 0), (.float 0), (.str (bs [])), (.int .i64 0), (.str (bs [])), (.bool false), (.bool false)] [((0, 1), (.c (.int .u8 6))), ((1, 4), (.t 37)), ((7, 4), (.t 40)), ((11, 4), (.t 43)), ((16, 1), (.t 45)), ((17, 1), (.t 47))]), none⟩,
         ⟨some 11, (.alloc 11 [(.int .u8 0), (.int .u8 0), (.float 0), (.str (bs [])), (.int .i64 0), (.bool false), (.nsl .prp), (.int .u8 0), (.float 0), (.str (bs [])), (.int .i64 0), (.int .u8 0), (.float 0), (.str (bs [])), (.int .i64 0), (.str (bs [])), (.bool false), (.bool false)] none), none⟩,
         ⟨none, (.store 18 (.t 11) (.t 48)), none⟩] [[], [], [], [1, 2], [], [], [1, 2, 3, 4, 5], [], [7], [], [9], [0, 1, 2, 3, 4, 5, 6, 7, 8, 9, 10], [], [0, 1, 2, 3, 4, 5, 6, 7, 8, 9, 10, 11, 12]])
       (.seq
        (.ops [
          ⟨some 49, (.load (some 1) (.t 3)), none⟩,
          ⟨some 50, (.load (some 18) (.t 11)), none⟩,
          ⟨some 51, (.call 137 [(.t 49), (.t 50)] (.p3 (.heap false) (.int .i64) (.int .i64)) []), none⟩,
          ⟨some 52, (.ext (.t 51) 0), none⟩,
          ⟨some 53, (.ext (.t 51) 1), none⟩,
          ⟨some 54, (.ext (.t 51) 2), none⟩,
          ⟨none, (.store 1 (.t 6) (.t 52)), none⟩,
          ⟨some 7, (.mv (.t 53)), none⟩,
          ⟨some 8, (.mv (.t 54)), none⟩])
        .ret))))))
def chain_Make.body : DC := chain_Make.bodyX chain_Make.t0
def chain_Make : FD := ⟨3, [.cell 6 (some 1), .tmp 7, .tmp 8], chain_Make.body⟩
/-- 119 bailiff/chain.Revoke -/
def chain_Revoke.bodyX : DC :=
  (.seq
   (.ops [
     ⟨some 2, (.box 2 (.t 0)), none⟩,
     ⟨some 4, (.alloc 4 [(.nsl .obj)] none), none⟩,
     ⟨some 5, (.mv (.c (.int .i64 0))), none⟩])
   (.seq
    (.seq
     (.ops [
       ⟨some 9, (.load (some 1) (.t 2)), none⟩,
       ⟨some 10, (.mv (.t 1)), none⟩,
       ⟨some 11, (.bslice none .int (List.replicate 1 (0 : Int)) [(0, (.t 10))]), none⟩,
       ⟨some 12, (.call 120 [(.t 9), (.t 11)] (.int .i64) []), none⟩,
       ⟨some 6, (.mv (.t 12)), none⟩])
     (.seq
      (.ops [
        ⟨some 13, (.mv (.t 6)), none⟩,
        ⟨some 14, (.bini .neq (.t 13) (.c (.int .i64 0))), none⟩])
      (.cond (.t 14)
       (.seq
        (.ops [
          ⟨some 15, (.build [(.nsl .obj)] []), none⟩,
          ⟨some 16, (.mv (.t 6)), none⟩,
          ⟨none, (.store 1 (.t 4) (.t 15)), none⟩,
          ⟨some 5, (.mv (.t 16)), none⟩])
        .ret)
       .skip)))
    (.seq
     (.seq
      (.ops [
        ⟨some 17, (.faddr 0 (.t 2)), none⟩,
        ⟨some 18, (.load none (.t 17)), none⟩,
        ⟨some 19, (.mv (.t 1)), none⟩,
        ⟨some 20, (.iaddr false 0 18 (.t 18) (.t 19)), none⟩,
        ⟨some 21, (.faddr 0 (.t 20)), none⟩,
        ⟨some 22, (.load none (.t 21)), none⟩,
        ⟨some 23, (.bini .neq (.t 22) (.c (.int .u8 6))), none⟩])
      (.cond (.t 23)
       (.seq
        (.ops [
          ⟨some 24, (.build [(.nsl .obj)] []), none⟩,
          ⟨none, (.store 1 (.t 4) (.t 24)), none⟩,
          ⟨some 5, (.mv (.c (.int .i64 2))), none⟩])
        .ret)
       .skip))
     (.seq
      (.ops [
        ⟨some 25, (.load (some 1) (.t 2)), none⟩,
        ⟨some 26, (.call 144 [(.t 25)] (.heap true) [2280]), none⟩,
        ⟨some 7, (.alloc 7 [(.nsl .obj)] none), none⟩,
        ⟨none, (.store 1 (.t 7) (.t 26)), none⟩])
      (.seq
       (.ops [
         ⟨some 27, (.faddr 0 (.t 7)), none⟩,
         ⟨some 28, (.load none (.t 27)), none⟩,
         ⟨some 29, (.mv (.t 1)), none⟩,
         ⟨some 30, (.iaddr false 0 18 (.t 28) (.t 29)), none⟩,
         ⟨some 8, (.mv (.t 30)), none⟩])
       (.seq
        (.ops [
          ⟨some 31, (.mv (.t 8)), none⟩,
          ⟨some 32, (.build [(.int .u8 0), (.float 0), (.str (bs [])), (.int .i64 0)] [((0, 1), (.c (.int .u8 1)))]), none⟩,
          ⟨some 33, (.nck (.t 31)), none⟩,
          ⟨some 34, (.faddr 7 (.t 33)), none⟩,
          ⟨none, (.store 4 (.t 34) (.t 32)), none⟩])
        (.seq
         (.ops [
           ⟨some 35, (.mv (.t 8)), none⟩,
           ⟨some 36, (.mv (.t 8)), none⟩,
           ⟨some 37, (.nck (.t 36)), none⟩,
           ⟨some 38, (.faddr 7 (.t 37)), none⟩,
           ⟨some 39, (.load (some 4) (.t 38)), none⟩,
           ⟨some 40, (.nck (.t 35)), none⟩,
           ⟨some 41, (.faddr 11 (.t 40)), none⟩,
           ⟨none, (.store 4 (.t 41) (.t 39)), none⟩])
         (.seq
          (.ops [
            ⟨some 42, (.load (some 1) (.t 7)), none⟩,
            ⟨none, (.store 1 (.t 4) (.t 42)), none⟩,
            ⟨some 5, (.mv (.c (.int .i64 0))), none⟩])
          .ret))))))))
def chain_Revoke.body : DC := chain_Revoke.bodyX
def chain_Revoke : FD := ⟨2, [.cell 4 (some 1), .tmp 5], chain_Revoke.body⟩
/-- 120 bailiff/chain.asked -/
def chain_asked.tX0 (t0 t1 : DC) : DC :=
        (.cond (.t 27)
         (.seq
          (.ops [
            ⟨some 4, (.mv (.c (.int .i64 2))), none⟩])
          .ret)
         .skip)
def chain_asked.t0 : DC := chain_asked.tX0 .skip .skip
def chain_asked.sX0 (t : DC) : DC := .kp [2, 13, 14, 15, 27] [2] t
def chain_asked.bX0 (t0 t1 : DC) : DC :=
  (.seq
   (.ops [
     ⟨some 16, (.bini .lss (.t 15) (.t 14)), none⟩])
   (.seq
    (.cond (.t 16)
     .skip
     (.exit 0))
    (.seq
     (.block 1
      (.seq
       (.ops [
         ⟨some 17, (.iaddr false 0 1 (.t 13) (.t 15)), none⟩,
         ⟨some 18, (.load none (.t 17)), none⟩,
         ⟨some 7, (.mv (.t 18)), none⟩])
       (.seq
        (.ops [
          ⟨some 19, (.mv (.t 7)), none⟩,
          ⟨some 20, (.bini .lss (.t 19) (.c (.int .i64 0))), none⟩,
          ⟨some 21, (.mv (.t 20)), none⟩,
          ⟨some 22, (.mv (.t 7)), some (21, false)⟩,
          ⟨some 23, (.faddr 0 (.t 2)), some (21, false)⟩,
          ⟨some 24, (.load none (.t 23)), some (21, false)⟩,
          ⟨some 25, (.len false (.t 24)), some (21, false)⟩,
          ⟨some 26, (.bini .geq (.t 22) (.t 25)), some (21, false)⟩,
          ⟨some 27, (.pick (.t 21) (.c (.bool true)) (.t 26)), none⟩])
        (chain_asked.sX0 t0))))
     (.ops [
       ⟨some 28, (.bini .add (.t 15) (.c (.int .i64 1))), none⟩,
       ⟨some 15, (.mv (.t 28)), none⟩]))))
def chain_asked.tX1 (t0 t1 : DC) : DC :=
     (.seq
      (.ops [
        ⟨some 4, (.mv (.c (.int .i64 0))), none⟩])
      .ret)
def chain_asked.t1 : DC := chain_asked.tX1 chain_asked.t0 .skip
def chain_asked.sX1 (t : DC) : DC := .kp [] [] t
def chain_asked.bodyX (t0 t1 : DC) : DC :=
  (.seq
   (.ops [
     ⟨some 2, (.box 2 (.t 0)), none⟩,
     ⟨some 4, (.mv (.c (.int .i64 0))), none⟩])
   (.seq
    (.seq
     (.ops [
       ⟨some 8, (.load (some 1) (.t 2)), none⟩,
       ⟨some 9, (.call 136 [(.t 8)] (.int .i64) []), none⟩,
       ⟨some 5, (.mv (.t 9)), none⟩])
     (.seq
      (.ops [
        ⟨some 10, (.mv (.t 5)), none⟩,
        ⟨some 11, (.bini .neq (.t 10) (.c (.int .i64 0))), none⟩])
      (.cond (.t 11)
       (.seq
        (.ops [
          ⟨some 12, (.mv (.t 5)), none⟩,
          ⟨some 4, (.mv (.t 12)), none⟩])
        .ret)
       .skip)))
    (.seq
     (.seq
      (.ops [
        ⟨some 13, (.mv (.t 1)), none⟩,
        ⟨some 14, (.len false (.t 13)), none⟩,
        ⟨some 15, (.mv (.c (.int .i64 0))), none⟩])
      (.block 0
       (.loop [2, 13, 14, 15] [2] (chain_asked.bX0 t0 t1))))
     (chain_asked.sX1 t1))))
def chain_asked.body : DC := chain_asked.bodyX chain_asked.t0 chain_asked.t1
def chain_asked : FD := ⟨2, [.tmp 4], chain_asked.body⟩
/-- 121 bailiff/chain.gone -/
def chain_gone.tX0 (t0 : DC) : DC :=
  (.ops [
    ⟨some 2, (.mv (.t 11)), none⟩])
def chain_gone.t0 : DC := chain_gone.tX0 .skip
def chain_gone.bodyX (t0 : DC) : DC :=
  (.seq
   (.ops [
     ⟨some 1, (.box 1 (.t 0)), none⟩,
     ⟨some 2, (.mv (.c (.bool false))), none⟩])
   (.seq
  (.opsc [
    ⟨some 3, (.faddr 0 (.t 1)), none⟩,
    ⟨some 4, (.load none (.t 3)), none⟩,
    ⟨some 5, (.bini .eql (.t 4) (.c (.int .u8 6))), none⟩,
    ⟨some 6, (.mv (.t 5)), none⟩,
    ⟨some 7, (.faddr 7 (.t 1)), some (6, true)⟩,
    ⟨some 8, (.faddr 0 (.t 7)), some (6, true)⟩,
    ⟨some 9, (.load none (.t 8)), some (6, true)⟩,
    ⟨some 10, (.bini .eql (.t 9) (.c (.int .u8 1))), some (6, true)⟩,
    ⟨some 11, (.pick (.t 6) (.t 10) (.c (.bool false))), none⟩] [11] [] t0)
    .ret))
def chain_gone.body : DC := chain_gone.bodyX chain_gone.t0
def chain_gone : FD := ⟨1, [.tmp 2], chain_gone.body⟩
/-- 122 bailiff/chain.live -/
def chain_live.tX0 (t0 : DC) : DC :=
  (.ops [
    ⟨some 2, (.mv (.t 11)), none⟩])
def chain_live.t0 : DC := chain_live.tX0 .skip
def chain_live.bodyX (t0 : DC) : DC :=
  (.seq
   (.ops [
     ⟨some 1, (.box 1 (.t 0)), none⟩,
     ⟨some 2, (.mv (.c (.bool false))), none⟩])
   (.seq
  (.opsc [
    ⟨some 3, (.faddr 0 (.t 1)), none⟩,
    ⟨some 4, (.load none (.t 3)), none⟩,
    ⟨some 5, (.bini .eql (.t 4) (.c (.int .u8 6))), none⟩,
    ⟨some 6, (.mv (.t 5)), none⟩,
    ⟨some 7, (.faddr 7 (.t 1)), some (6, true)⟩,
    ⟨some 8, (.faddr 0 (.t 7)), some (6, true)⟩,
    ⟨some 9, (.load none (.t 8)), some (6, true)⟩,
    ⟨some 10, (.bini .neq (.t 9) (.c (.int .u8 1))), some (6, true)⟩,
    ⟨some 11, (.pick (.t 6) (.t 10) (.c (.bool false))), none⟩] [11] [] t0)
    .ret))
def chain_live.body : DC := chain_live.bodyX chain_live.t0
def chain_live : FD := ⟨1, [.tmp 2], chain_live.body⟩
/-- 123 bailiff/chain.named -/
def chain_named.tX0 (t0 t1 : DC) : DC :=
      (.seq
       (.ops [
         ⟨some 22, (.load (some 4) (.t 5)), none⟩,
         ⟨none, (.store 4 (.t 4) (.t 22)), none⟩])
       .ret)
def chain_named.t0 : DC := chain_named.tX0 .skip .skip
def chain_named.sX0 (t : DC) : DC := .kp [4, 5] [4, 5] t
def chain_named.tX1 (t0 t1 : DC) : DC :=
     (.seq
      (.seq
       (.ops [
         ⟨some 15, (.faddr 0 (.t 2)), none⟩,
         ⟨some 16, (.load none (.t 15)), none⟩,
         ⟨some 17, (.mv (.t 1)), none⟩,
         ⟨some 18, (.iaddr false 0 18 (.t 16) (.t 17)), none⟩,
         ⟨some 19, (.faddr 17 (.t 18)), none⟩,
         ⟨some 20, (.load none (.t 19)), none⟩])
       (.cond (.t 20)
        (.ops [
          ⟨some 21, (.faddr 0 (.t 5)), none⟩,
          ⟨none, (.store 1 (.t 21) (.c (.int .u8 8))), none⟩])
        .skip))
      (chain_named.sX0 t0))
def chain_named.t1 : DC := chain_named.tX1 chain_named.t0 .skip
def chain_named.sX1 (t : DC) : DC := .kp [1, 2, 4, 5] [2, 4, 5] t
def chain_named.bodyX (t0 t1 : DC) : DC :=
  (.seq
   (.ops [
     ⟨some 2, (.box 2 (.t 0)), none⟩,
     ⟨some 4, (.alloc 4 [(.int .u8 0), (.float 0), (.str (bs [])), (.int .i64 0)] none), none⟩])
   (.seq
    (.ops [
      ⟨some 6, (.mv (.t 1)), none⟩,
      ⟨some 7, (.build [(.int .u8 0), (.float 0), (.str (bs [])), (.int .i64 0)] [((0, 1), (.c (.int .u8 6))), ((3, 1), (.t 6))]), none⟩,
      ⟨some 5, (.alloc 5 [(.int .u8 0), (.float 0), (.str (bs [])), (.int .i64 0)] none), none⟩,
      ⟨none, (.store 4 (.t 5) (.t 7)), none⟩])
    (.seq
     (.seq
      (.ops [
        ⟨some 8, (.faddr 0 (.t 2)), none⟩,
        ⟨some 9, (.load none (.t 8)), none⟩,
        ⟨some 10, (.mv (.t 1)), none⟩,
        ⟨some 11, (.iaddr false 0 18 (.t 9) (.t 10)), none⟩,
        ⟨some 12, (.faddr 16 (.t 11)), none⟩,
        ⟨some 13, (.load none (.t 12)), none⟩])
      (.cond (.t 13)
       (.ops [
         ⟨some 14, (.faddr 0 (.t 5)), none⟩,
         ⟨none, (.store 1 (.t 14) (.c (.int .u8 7))), none⟩])
       .skip))
     (chain_named.sX1 t1))))
def chain_named.body : DC := chain_named.bodyX chain_named.t0 chain_named.t1
def chain_named : FD := ⟨2, [.cell 4 (some 4)], chain_named.body⟩
/-- 125 bailiff/desc.Check -/
def desc_Check.tX0 (t0 t1 t2 t3 t4 t5 t6 t7 t8 t9 : DC) : DC :=
  (.ops [
    ⟨some 31, (.mv (.t 30)), none⟩,
    ⟨some 32, (.faddr 9 (.t 1)), some (31, false)⟩,
    ⟨some 33, (.load (some 4) (.t 32)), some (31, false)⟩,
    ⟨some 34, (.call 133 [(.t 33)] .bool []), some (31, false)⟩,
    ⟨some 35, (.not (.t 34)), some (31, false)⟩,
    ⟨some 36, (.pick (.t 31) (.c (.bool true)) (.t 35)), none⟩])
def desc_Check.t0 : DC := desc_Check.tX0 .skip .skip .skip .skip .skip .skip .skip .skip .skip .skip
def desc_Check.tX1 (t0 t1 t2 t3 t4 t5 t6 t7 t8 t9 : DC) : DC :=
  (.opsc [
    ⟨some 25, (.mv (.t 24)), none⟩,
    ⟨some 26, (.faddr 5 (.t 1)), some (25, false)⟩,
    ⟨some 27, (.load (some 4) (.t 26)), some (25, false)⟩,
    ⟨some 28, (.call 133 [(.t 27)] .bool []), some (25, false)⟩,
    ⟨some 29, (.not (.t 28)), some (25, false)⟩,
    ⟨some 30, (.pick (.t 25) (.c (.bool true)) (.t 29)), none⟩] [1, 30] [1] t0)
def desc_Check.t1 : DC := desc_Check.tX1 desc_Check.t0 .skip .skip .skip .skip .skip .skip .skip .skip .skip
def desc_Check.tX2 (t0 t1 t2 t3 t4 t5 t6 t7 t8 t9 : DC) : DC :=
  (.opsc [
    ⟨some 19, (.mv (.t 18)), none⟩,
    ⟨some 20, (.faddr 1 (.t 1)), some (19, false)⟩,
    ⟨some 21, (.load (some 4) (.t 20)), some (19, false)⟩,
    ⟨some 22, (.call 182 [(.t 21)] .bool []), some (19, false)⟩,
    ⟨some 23, (.not (.t 22)), some (19, false)⟩,
    ⟨some 24, (.pick (.t 19) (.c (.bool true)) (.t 23)), none⟩] [1, 24] [1] t1)
def desc_Check.t2 : DC := desc_Check.tX2 desc_Check.t0 desc_Check.t1 .skip .skip .skip .skip .skip .skip .skip .skip
def desc_Check.tX3 (t0 t1 t2 t3 t4 t5 t6 t7 t8 t9 : DC) : DC :=
       (.cond (.t 36)
        (.seq
         (.ops [
           ⟨some 2, (.mv (.c (.int .i64 90))), none⟩])
         .ret)
        .skip)
def desc_Check.t3 : DC := desc_Check.tX3 desc_Check.t0 desc_Check.t1 desc_Check.t2 .skip .skip .skip .skip .skip .skip .skip
def desc_Check.sX3 (t : DC) : DC := .kp [1, 36] [1] t
def desc_Check.tX4 (t0 t1 t2 t3 t4 t5 t6 t7 t8 t9 : DC) : DC :=
  (.ops [
    ⟨some 60, (.mv (.t 59)), none⟩,
    ⟨some 61, (.mv (.t 4)), some (60, false)⟩,
    ⟨some 62, (.bini .and (.t 61) (.c (.int .u8 8))), some (60, false)⟩,
    ⟨some 63, (.bini .neq (.t 62) (.c (.int .u8 0))), some (60, false)⟩,
    ⟨some 64, (.mv (.t 63)), some (60, false)⟩,
    ⟨some 65, (.faddr 9 (.t 1)), some (64, true)⟩,
    ⟨some 66, (.load (some 4) (.t 65)), some (64, true)⟩,
    ⟨some 67, (.build [(.int .u8 0), (.float 0), (.str (bs [])), (.int .i64 0)] []), some (64, true)⟩,
    ⟨some 68, (.eqa true [0, 3, 2, 0] (.t 66) (.t 67)), some (64, true)⟩,
    ⟨some 69, (.pick (.t 64) (.t 68) (.c (.bool false))), some (60, false)⟩,
    ⟨some 70, (.pick (.t 60) (.c (.bool true)) (.t 69)), none⟩])
def desc_Check.t4 : DC := desc_Check.tX4 desc_Check.t0 desc_Check.t1 desc_Check.t2 desc_Check.t3 .skip .skip .skip .skip .skip .skip
def desc_Check.tX5 (t0 t1 t2 t3 t4 t5 t6 t7 t8 t9 : DC) : DC :=
  (.opsc [
    ⟨some 49, (.mv (.t 48)), none⟩,
    ⟨some 50, (.mv (.t 4)), some (49, false)⟩,
    ⟨some 51, (.bini .and (.t 50) (.c (.int .u8 4))), some (49, false)⟩,
    ⟨some 52, (.bini .neq (.t 51) (.c (.int .u8 0))), some (49, false)⟩,
    ⟨some 53, (.mv (.t 52)), some (49, false)⟩,
    ⟨some 54, (.faddr 5 (.t 1)), some (53, true)⟩,
    ⟨some 55, (.load (some 4) (.t 54)), some (53, true)⟩,
    ⟨some 56, (.build [(.int .u8 0), (.float 0), (.str (bs [])), (.int .i64 0)] []), some (53, true)⟩,
    ⟨some 57, (.eqa true [0, 3, 2, 0] (.t 55) (.t 56)), some (53, true)⟩,
    ⟨some 58, (.pick (.t 53) (.t 57) (.c (.bool false))), some (49, false)⟩,
    ⟨some 59, (.pick (.t 49) (.c (.bool true)) (.t 58)), none⟩] [1, 4, 59] [1] t4)
def desc_Check.t5 : DC := desc_Check.tX5 desc_Check.t0 desc_Check.t1 desc_Check.t2 desc_Check.t3 desc_Check.t4 .skip .skip .skip .skip .skip
def desc_Check.tX6 (t0 t1 t2 t3 t4 t5 t6 t7 t8 t9 : DC) : DC :=
         (.cond (.t 70)
          (.seq
           (.ops [
             ⟨some 2, (.mv (.c (.int .i64 90))), none⟩])
           .ret)
          .skip)
def desc_Check.t6 : DC := desc_Check.tX6 desc_Check.t0 desc_Check.t1 desc_Check.t2 desc_Check.t3 desc_Check.t4 desc_Check.t5 .skip .skip .skip .skip
def desc_Check.sX6 (t : DC) : DC := .kp [1, 4, 70] [1] t
def desc_Check.tX7 (t0 t1 t2 t3 t4 t5 t6 t7 t8 t9 : DC) : DC :=
  (.ops [
    ⟨some 87, (.mv (.t 86)), none⟩,
    ⟨some 88, (.mv (.t 4)), some (87, false)⟩,
    ⟨some 89, (.bini .and (.t 88) (.c (.int .u8 32))), some (87, false)⟩,
    ⟨some 90, (.bini .neq (.t 89) (.c (.int .u8 0))), some (87, false)⟩,
    ⟨some 91, (.mv (.t 90)), some (87, false)⟩,
    ⟨some 92, (.faddr 15 (.t 1)), some (91, true)⟩,
    ⟨some 93, (.load none (.t 92)), some (91, true)⟩,
    ⟨some 94, (.pick (.t 91) (.t 93) (.c (.bool false))), some (87, false)⟩,
    ⟨some 95, (.pick (.t 87) (.c (.bool true)) (.t 94)), none⟩])
def desc_Check.t7 : DC := desc_Check.tX7 desc_Check.t0 desc_Check.t1 desc_Check.t2 desc_Check.t3 desc_Check.t4 desc_Check.t5 desc_Check.t6 .skip .skip .skip
def desc_Check.tX8 (t0 t1 t2 t3 t4 t5 t6 t7 t8 t9 : DC) : DC :=
  (.opsc [
    ⟨some 78, (.mv (.t 77)), none⟩,
    ⟨some 79, (.mv (.t 4)), some (78, false)⟩,
    ⟨some 80, (.bini .and (.t 79) (.c (.int .u8 16))), some (78, false)⟩,
    ⟨some 81, (.bini .neq (.t 80) (.c (.int .u8 0))), some (78, false)⟩,
    ⟨some 82, (.mv (.t 81)), some (78, false)⟩,
    ⟨some 83, (.faddr 14 (.t 1)), some (82, true)⟩,
    ⟨some 84, (.load none (.t 83)), some (82, true)⟩,
    ⟨some 85, (.pick (.t 82) (.t 84) (.c (.bool false))), some (78, false)⟩,
    ⟨some 86, (.pick (.t 78) (.c (.bool true)) (.t 85)), none⟩] [1, 4, 86] [1] t7)
def desc_Check.t8 : DC := desc_Check.tX8 desc_Check.t0 desc_Check.t1 desc_Check.t2 desc_Check.t3 desc_Check.t4 desc_Check.t5 desc_Check.t6 desc_Check.t7 .skip .skip
def desc_Check.tX9 (t0 t1 t2 t3 t4 t5 t6 t7 t8 t9 : DC) : DC :=
          (.cond (.t 95)
           (.seq
            (.ops [
              ⟨some 2, (.mv (.c (.int .i64 90))), none⟩])
            .ret)
           .skip)
def desc_Check.t9 : DC := desc_Check.tX9 desc_Check.t0 desc_Check.t1 desc_Check.t2 desc_Check.t3 desc_Check.t4 desc_Check.t5 desc_Check.t6 desc_Check.t7 desc_Check.t8 .skip
def desc_Check.sX9 (t : DC) : DC := .kp [95] [] t
def desc_Check.bodyX (t0 t1 t2 t3 t4 t5 t6 t7 t8 t9 : DC) : DC :=
  (.seq
   (.ops [
     ⟨some 1, (.box 1 (.t 0)), none⟩,
     ⟨some 2, (.mv (.c (.int .i64 0))), none⟩])
   (.seq
    (.ops [
      ⟨some 5, (.faddr 0 (.t 1)), none⟩,
      ⟨some 6, (.load none (.t 5)), none⟩,
      ⟨some 3, (.mv (.t 6)), none⟩])
    (.seq
     (.ops [
       ⟨some 7, (.mv (.t 3)), none⟩,
       ⟨some 8, (.bini .andNot (.t 7) (.c (.int .u8 63))), none⟩,
       ⟨some 3, (.mv (.t 8)), none⟩])
     (.seq
      (.seq
  (.opsc [
    ⟨some 9, (.mv (.t 3)), none⟩,
    ⟨some 10, (.bini .neq (.t 9) (.c (.int .u8 0))), none⟩,
    ⟨some 11, (.mv (.t 10)), none⟩,
    ⟨some 12, (.load (some 16) (.t 1)), some (11, false)⟩,
    ⟨some 13, (.call 129 [(.t 12)] .bool []), some (11, false)⟩,
    ⟨some 14, (.mv (.t 13)), some (11, false)⟩,
    ⟨some 15, (.load (some 16) (.t 1)), some (14, true)⟩,
    ⟨some 16, (.call 128 [(.t 15)] .bool []), some (14, true)⟩,
    ⟨some 17, (.pick (.t 14) (.t 16) (.c (.bool false))), some (11, false)⟩,
    ⟨some 18, (.pick (.t 11) (.c (.bool true)) (.t 17)), none⟩] [1, 18] [1] t2)
       (desc_Check.sX3 t3))
      (.seq
       (.ops [
         ⟨some 37, (.faddr 0 (.t 1)), none⟩,
         ⟨some 38, (.load none (.t 37)), none⟩,
         ⟨some 39, (.xor (.t 38)), none⟩,
         ⟨some 4, (.mv (.t 39)), none⟩])
       (.seq
        (.seq
  (.opsc [
    ⟨some 40, (.mv (.t 4)), none⟩,
    ⟨some 41, (.bini .and (.t 40) (.c (.int .u8 1))), none⟩,
    ⟨some 42, (.bini .neq (.t 41) (.c (.int .u8 0))), none⟩,
    ⟨some 43, (.mv (.t 42)), none⟩,
    ⟨some 44, (.faddr 1 (.t 1)), some (43, true)⟩,
    ⟨some 45, (.load (some 4) (.t 44)), some (43, true)⟩,
    ⟨some 46, (.build [(.int .u8 0), (.float 0), (.str (bs [])), (.int .i64 0)] []), some (43, true)⟩,
    ⟨some 47, (.eqa true [0, 3, 2, 0] (.t 45) (.t 46)), some (43, true)⟩,
    ⟨some 48, (.pick (.t 43) (.t 47) (.c (.bool false))), none⟩] [1, 4, 48] [1] t5)
         (desc_Check.sX6 t6))
        (.seq
         (.seq
  (.opsc [
    ⟨some 71, (.mv (.t 4)), none⟩,
    ⟨some 72, (.bini .and (.t 71) (.c (.int .u8 2))), none⟩,
    ⟨some 73, (.bini .neq (.t 72) (.c (.int .u8 0))), none⟩,
    ⟨some 74, (.mv (.t 73)), none⟩,
    ⟨some 75, (.faddr 13 (.t 1)), some (74, true)⟩,
    ⟨some 76, (.load none (.t 75)), some (74, true)⟩,
    ⟨some 77, (.pick (.t 74) (.t 76) (.c (.bool false))), none⟩] [1, 4, 77] [1] t8)
          (desc_Check.sX9 t9))
         (.seq
          (.ops [
            ⟨some 2, (.mv (.c (.int .i64 0))), none⟩])
          .ret))))))))
def desc_Check.body : DC := desc_Check.bodyX desc_Check.t0 desc_Check.t1 desc_Check.t2 desc_Check.t3 desc_Check.t4 desc_Check.t5 desc_Check.t6 desc_Check.t7 desc_Check.t8 desc_Check.t9
def desc_Check : FD := ⟨1, [.tmp 2], desc_Check.body⟩
/-- 127 bailiff/desc.Complete -/
def desc_Complete.bodyX : DC :=
  (.seq
   (.ops [
     ⟨some 1, (.box 1 (.t 0)), none⟩,
     ⟨some 2, (.alloc 2 [(.int .u8 0), (.int .u8 0), (.float 0), (.str (bs [])), (.int .i64 0), (.int .u8 0), (.float 0), (.str (bs [])), (.int .i64 0), (.int .u8 0), (.float 0), (.str (bs [])), (.int .i64 0), (.bool false), (.bool false), (.bool false)] none), none⟩,
     ⟨some 3, (.mv (.c (.int .i64 0))), none⟩])
   (.seq
    (.seq
     (.ops [
       ⟨some 5, (.load (some 16) (.t 1)), none⟩,
       ⟨some 6, (.call 125 [(.t 5)] (.int .i64) []), none⟩,
       ⟨some 4, (.mv (.t 6)), none⟩])
     (.seq
      (.ops [
        ⟨some 7, (.mv (.t 4)), none⟩,
        ⟨some 8, (.bini .neq (.t 7) (.c (.int .i64 0))), none⟩])
      (.cond (.t 8)
       (.seq
        (.ops [
          ⟨some 9, (.build [(.int .u8 0), (.int .u8 0), (.float 0), (.str (bs [])), (.int .i64 0), (.int .u8 0), (.float 0), (.str (bs [])), (.int .i64 0), (.int .u8 0), (.float 0), (.str (bs [])), (.int .i64 0), (.bool false), (.bool false), (.bool false)] []), none⟩,
          ⟨some 10, (.mv (.t 4)), none⟩,
          ⟨none, (.store 16 (.t 2) (.t 9)), none⟩,
          ⟨some 3, (.mv (.t 10)), none⟩])
        .ret)
       .skip)))
    (.seq
     (.ops [
       ⟨some 11, (.load (some 16) (.t 1)), none⟩,
       ⟨some 12, (.call 135 [(.t 11)] .dsc []), none⟩,
       ⟨none, (.store 16 (.t 2) (.t 12)), none⟩,
       ⟨some 3, (.mv (.c (.int .i64 0))), none⟩])
     .ret)))
def desc_Complete.body : DC := desc_Complete.bodyX
def desc_Complete : FD := ⟨1, [.cell 2 (some 16), .tmp 3], desc_Complete.body⟩
/-- 128 bailiff/desc.IsAccess -/
def desc_IsAccess.bodyX : DC :=
  (.seq
   (.ops [
     ⟨some 1, (.box 1 (.t 0)), none⟩,
     ⟨some 2, (.mv (.c (.bool false))), none⟩])
   (.seq
    (.ops [
      ⟨some 3, (.faddr 0 (.t 1)), none⟩,
      ⟨some 4, (.load none (.t 3)), none⟩,
      ⟨some 5, (.bini .and (.t 4) (.c (.int .u8 12))), none⟩,
      ⟨some 6, (.bini .neq (.t 5) (.c (.int .u8 0))), none⟩,
      ⟨some 2, (.mv (.t 6)), none⟩])
    .ret))
def desc_IsAccess.body : DC := desc_IsAccess.bodyX
def desc_IsAccess : FD := ⟨1, [.tmp 2], desc_IsAccess.body⟩
/-- 129 bailiff/desc.IsData -/
def desc_IsData.bodyX : DC :=
  (.seq
   (.ops [
     ⟨some 1, (.box 1 (.t 0)), none⟩,
     ⟨some 2, (.mv (.c (.bool false))), none⟩])
   (.seq
    (.ops [
      ⟨some 3, (.faddr 0 (.t 1)), none⟩,
      ⟨some 4, (.load none (.t 3)), none⟩,
      ⟨some 5, (.bini .and (.t 4) (.c (.int .u8 3))), none⟩,
      ⟨some 6, (.bini .neq (.t 5) (.c (.int .u8 0))), none⟩,
      ⟨some 2, (.mv (.t 6)), none⟩])
    .ret))
def desc_IsData.body : DC := desc_IsData.bodyX
def desc_IsData : FD := ⟨1, [.tmp 2], desc_IsData.body⟩
/-- 133 bailiff/desc.called -/
def desc_called.tX0 (t0 : DC) : DC :=
  (.ops [
    ⟨some 2, (.mv (.t 13)), none⟩])
def desc_called.t0 : DC := desc_called.tX0 .skip
def desc_called.bodyX (t0 : DC) : DC :=
  (.seq
   (.ops [
     ⟨some 1, (.box 1 (.t 0)), none⟩,
     ⟨some 2, (.mv (.c (.bool false))), none⟩])
   (.seq
  (.opsc [
    ⟨some 3, (.load (some 4) (.t 1)), none⟩,
    ⟨some 4, (.call 182 [(.t 3)] .bool []), none⟩,
    ⟨some 5, (.mv (.t 4)), none⟩,
    ⟨some 6, (.faddr 0 (.t 1)), some (5, true)⟩,
    ⟨some 7, (.load none (.t 6)), some (5, true)⟩,
    ⟨some 8, (.bini .eql (.t 7) (.c (.int .u8 0))), some (5, true)⟩,
    ⟨some 9, (.mv (.t 8)), some (5, true)⟩,
    ⟨some 10, (.load (some 4) (.t 1)), some (9, false)⟩,
    ⟨some 11, (.call 180 [(.t 10)] .bool []), some (9, false)⟩,
    ⟨some 12, (.pick (.t 9) (.c (.bool true)) (.t 11)), some (5, true)⟩,
    ⟨some 13, (.pick (.t 5) (.t 12) (.c (.bool false))), none⟩] [13] [] t0)
    .ret))
def desc_called.body : DC := desc_called.bodyX desc_called.t0
def desc_called : FD := ⟨1, [.tmp 2], desc_called.body⟩
/-- 135 bailiff/desc.whole -/
def desc_whole.tX0 (t0 : DC) : DC :=
    (.seq
     (.ops [
       ⟨some 13, (.load (some 16) (.t 1)), none⟩,
       ⟨none, (.store 16 (.t 2) (.t 13)), none⟩])
     .ret)
def desc_whole.t0 : DC := desc_whole.tX0 .skip
def desc_whole.sX0 (t : DC) : DC := .kp [1, 2] [1, 2] t
def desc_whole.bodyX (t0 : DC) : DC :=
  (.seq
   (.ops [
     ⟨some 1, (.box 1 (.t 0)), none⟩,
     ⟨some 2, (.alloc 2 [(.int .u8 0), (.int .u8 0), (.float 0), (.str (bs [])), (.int .i64 0), (.int .u8 0), (.float 0), (.str (bs [])), (.int .i64 0), (.int .u8 0), (.float 0), (.str (bs [])), (.int .i64 0), (.bool false), (.bool false), (.bool false)] none), none⟩])
   (.seq
    (.seq
     (.ops [
       ⟨some 3, (.load (some 16) (.t 1)), none⟩,
       ⟨some 4, (.call 128 [(.t 3)] .bool []), none⟩])
     (.cond (.t 4)
      (.ops [
        ⟨some 5, (.faddr 0 (.t 1)), none⟩,
        ⟨some 6, (.load none (.t 5)), none⟩,
        ⟨some 7, (.bini .or (.t 6) (.c (.int .u8 60))), none⟩,
        ⟨some 8, (.faddr 0 (.t 1)), none⟩,
        ⟨none, (.store 1 (.t 8) (.t 7)), none⟩])
      (.ops [
        ⟨some 9, (.faddr 0 (.t 1)), none⟩,
        ⟨some 10, (.load none (.t 9)), none⟩,
        ⟨some 11, (.bini .or (.t 10) (.c (.int .u8 51))), none⟩,
        ⟨some 12, (.faddr 0 (.t 1)), none⟩,
        ⟨none, (.store 1 (.t 12) (.t 11)), none⟩])))
    (desc_whole.sX0 t0)))
def desc_whole.body : DC := desc_whole.bodyX desc_whole.t0
def desc_whole : FD := ⟨1, [.cell 2 (some 16)], desc_whole.body⟩
/-- 136 bailiff/heap.Check -/
def heap_Check.bX0 (t0 : DC) : DC :=
  (.seq
   (.ops [
     ⟨some 12, (.bini .lss (.t 11) (.t 10)), none⟩])
   (.seq
    (.cond (.t 12)
     .skip
     (.exit 0))
    (.seq
     (.block 1
      (.seq
       (.ops [
         ⟨some 13, (.mv (.t 11)), none⟩,
         ⟨some 3, (.mv (.t 13)), none⟩])
       (.seq
        (.ops [
          ⟨some 14, (.load (some 1) (.t 1)), none⟩,
          ⟨some 15, (.mv (.t 3)), none⟩,
          ⟨some 16, (.call 155 [(.t 14), (.t 15)] .bool []), none⟩,
          ⟨some 17, (.not (.t 16)), none⟩])
        (.cond (.t 17)
         (.seq
          (.ops [
            ⟨some 2, (.mv (.c (.int .i64 9))), none⟩])
          .ret)
         .skip))))
     (.ops [
       ⟨some 18, (.bini .add (.t 11) (.c (.int .i64 1))), none⟩,
       ⟨some 11, (.mv (.t 18)), none⟩]))))
def heap_Check.tX0 (t0 : DC) : DC :=
     (.seq
      (.seq
       (.ops [
         ⟨some 19, (.load (some 1) (.t 1)), none⟩,
         ⟨some 20, (.call 154 [(.t 19)] .bool []), none⟩])
       (.cond (.t 20)
        (.seq
         (.ops [
           ⟨some 2, (.mv (.c (.int .i64 9))), none⟩])
         .ret)
        .skip))
      (.seq
       (.ops [
         ⟨some 2, (.mv (.c (.int .i64 0))), none⟩])
       .ret))
def heap_Check.t0 : DC := heap_Check.tX0 .skip
def heap_Check.sX0 (t : DC) : DC := .kp [1] [1] t
def heap_Check.bodyX (t0 : DC) : DC :=
  (.seq
   (.ops [
     ⟨some 1, (.box 1 (.t 0)), none⟩,
     ⟨some 2, (.mv (.c (.int .i64 0))), none⟩])
   (.seq
    (.seq
     (.ops [
       ⟨some 4, (.faddr 0 (.t 1)), none⟩,
       ⟨some 5, (.load none (.t 4)), none⟩,
       ⟨some 6, (.len false (.t 5)), none⟩,
       ⟨some 7, (.bini .gtr (.t 6) (.c (.int .i64 4096))), none⟩])
     (.cond (.t 7)
      (.seq
       (.ops [
         ⟨some 2, (.mv (.c (.int .i64 9))), none⟩])
       .ret)
      .skip))
    (.seq
     (.seq
      (.ops [
        ⟨some 8, (.faddr 0 (.t 1)), none⟩,
        ⟨some 9, (.load none (.t 8)), none⟩,
        ⟨some 10, (.len false (.t 9)), none⟩,
        ⟨some 11, (.mv (.c (.int .i64 0))), none⟩])
      (.block 0
       (.loop [1, 10, 11] [1] (heap_Check.bX0 t0))))
     (heap_Check.sX0 t0))))
def heap_Check.body : DC := heap_Check.bodyX heap_Check.t0
def heap_Check : FD := ⟨1, [.tmp 2], heap_Check.body⟩
/-- 137 bailiff/heap.New -/
def heap_New.bodyX : DC :=
  (.seq
   (.ops [
     ⟨some 2, (.box 2 (.t 0)), none⟩,
     ⟨some 3, (.box 3 (.t 1)), none⟩,
     ⟨some 4, (.alloc 4 [(.nsl .obj)] none), none⟩,
     ⟨some 5, (.mv (.c (.int .i64 0))), none⟩,
     ⟨some 6, (.mv (.c (.int .i64 0))), none⟩])
   (.seq
    (.seq
     (.ops [
       ⟨some 11, (.load (some 1) (.t 2)), none⟩,
       ⟨some 12, (.call 136 [(.t 11)] (.int .i64) []), none⟩,
       ⟨some 7, (.mv (.t 12)), none⟩])
     (.seq
      (.ops [
        ⟨some 13, (.mv (.t 7)), none⟩,
        ⟨some 14, (.bini .neq (.t 13) (.c (.int .i64 0))), none⟩])
      (.cond (.t 14)
       (.seq
        (.ops [
          ⟨some 15, (.build [(.nsl .obj)] []), none⟩,
          ⟨some 16, (.mv (.t 7)), none⟩,
          ⟨none, (.store 1 (.t 4) (.t 15)), none⟩,
          ⟨some 5, (.mv (.c (.int .i64 0))), none⟩,
          ⟨some 6, (.mv (.t 16)), none⟩])
        .ret)
       .skip)))
    (.seq
     (.ops [
       ⟨some 17, (.faddr 0 (.t 2)), none⟩,
       ⟨some 18, (.load none (.t 17)), none⟩,
       ⟨some 19, (.len false (.t 18)), none⟩,
       ⟨some 8, (.mv (.t 19)), none⟩])
     (.seq
      (.seq
       (.ops [
         ⟨some 20, (.mv (.t 8)), none⟩,
         ⟨some 21, (.bini .eql (.t 20) (.c (.int .i64 4096))), none⟩])
       (.cond (.t 21)
        (.seq
         (.ops [
           ⟨some 22, (.build [(.nsl .obj)] []), none⟩,
           ⟨none, (.store 1 (.t 4) (.t 22)), none⟩,
           ⟨some 5, (.mv (.c (.int .i64 0))), none⟩,
           ⟨some 6, (.mv (.c (.int .i64 4))), none⟩])
         .ret)
        .skip))
      (.seq
       (.ops [
         ⟨some 23, (.load (some 1) (.t 2)), none⟩,
         ⟨some 24, (.call 144 [(.t 23)] (.heap true) [2360]), none⟩,
         ⟨some 9, (.alloc 9 [(.nsl .obj)] none), none⟩,
         ⟨none, (.store 1 (.t 9) (.t 24)), none⟩])
       (.seq
        (.draw [
          ⟨some 25, (.faddr 0 (.t 9)), none⟩,
          ⟨some 26, (.load none (.t 25)), none⟩,
          ⟨some 27, (.load (some 18) (.t 3)), none⟩,
          ⟨some 28, (.call 156 [(.t 27)] .obj []), none⟩,
          ⟨some 29, (.bslice none .obj (List.replicate 1 (⟨0, ⟨0, 0, bs [], 0⟩, false, [], ⟨0, 0, bs [], 0⟩, ⟨0, 0, bs [], 0⟩, bs [], false, false⟩ : Obj)) [(0, (.t 28))]), none⟩,
          ⟨some 30, (.append 2360 .obj (.t 26) (.t 29)), none⟩,
          ⟨some 31, (.faddr 0 (.t 9)), none⟩,
          ⟨none, (.store 1 (.t 31) (.t 30)), none⟩] [[], [0], [], [2], [2, 3], [0, 1, 2, 3, 4], [0, 1, 2, 3, 4, 5], [0, 1, 2, 3, 4, 5, 6]])
        (.seq
         (.seq
          (.ops [
            ⟨some 32, (.load (some 1) (.t 9)), none⟩,
            ⟨some 33, (.call 136 [(.t 32)] (.int .i64) []), none⟩,
            ⟨some 10, (.mv (.t 33)), none⟩])
          (.seq
           (.ops [
             ⟨some 34, (.mv (.t 10)), none⟩,
             ⟨some 35, (.bini .neq (.t 34) (.c (.int .i64 0))), none⟩])
           (.cond (.t 35)
            (.seq
             (.ops [
               ⟨some 36, (.build [(.nsl .obj)] []), none⟩,
               ⟨some 37, (.mv (.t 10)), none⟩,
               ⟨none, (.store 1 (.t 4) (.t 36)), none⟩,
               ⟨some 5, (.mv (.c (.int .i64 0))), none⟩,
               ⟨some 6, (.mv (.t 37)), none⟩])
             .ret)
            .skip)))
         (.seq
          (.ops [
            ⟨some 38, (.load (some 1) (.t 9)), none⟩,
            ⟨some 39, (.mv (.t 8)), none⟩,
            ⟨none, (.store 1 (.t 4) (.t 38)), none⟩,
            ⟨some 5, (.mv (.t 39)), none⟩,
            ⟨some 6, (.mv (.c (.int .i64 0))), none⟩])
          .ret))))))))
def heap_New.body : DC := heap_New.bodyX
def heap_New : FD := ⟨2, [.cell 4 (some 1), .tmp 5, .tmp 6], heap_New.body⟩
/-- 144 bailiff/heap.Twin -/
def heap_Twin.bX0 (t0 : DC) : DC :=
  (.seq
   (.ops [
     ⟨some 16, (.bini .lss (.t 15) (.t 14)), none⟩])
   (.seq
    (.cond (.t 16)
     .skip
     (.exit 0))
    (.seq
     (.block 1
      (.seq
       (.ops [
         ⟨some 17, (.mv (.t 15)), none⟩,
         ⟨some 4, (.mv (.t 17)), none⟩])
       (.ops [
         ⟨some 18, (.mv (.t 3)), none⟩,
         ⟨some 19, (.mv (.t 4)), none⟩,
         ⟨some 20, (.mv (.t 3)), none⟩,
         ⟨some 21, (.mv (.t 4)), none⟩,
         ⟨some 22, (.iaddr false 0 18 (.t 20) (.t 21)), none⟩,
         ⟨some 23, (.load (some 18) (.t 22)), none⟩,
         ⟨some 24, (.call 156 [(.t 23)] .obj []), none⟩,
         ⟨some 25, (.iaddr false 0 18 (.t 18) (.t 19)), none⟩,
         ⟨none, (.store 18 (.t 25) (.t 24)), none⟩])))
     (.ops [
       ⟨some 26, (.bini .add (.t 15) (.c (.int .i64 1))), none⟩,
       ⟨some 15, (.mv (.t 26)), none⟩]))))
def heap_Twin.tX0 (t0 : DC) : DC :=
      (.seq
       (.ops [
         ⟨some 27, (.mv (.t 3)), none⟩,
         ⟨some 28, (.build [(.nsl .obj)] [((0, 1), (.t 27))]), none⟩,
         ⟨none, (.store 1 (.t 2) (.t 28)), none⟩])
       .ret)
def heap_Twin.t0 : DC := heap_Twin.tX0 .skip
def heap_Twin.sX0 (t : DC) : DC := .kp [2, 3] [2, 1003] t
def heap_Twin.bodyX (t0 : DC) : DC :=
  (.seq
   (.ops [
     ⟨some 1, (.box 1 (.t 0)), none⟩,
     ⟨some 2, (.alloc 2 [(.nsl .obj)] none), none⟩])
   (.seq
    (.ops [
      ⟨some 5, (.faddr 0 (.t 1)), none⟩,
      ⟨some 6, (.load none (.t 5)), none⟩,
      ⟨some 7, (.len false (.t 6)), none⟩,
      ⟨some 8, (.mkslice 1003 .obj (⟨0, ⟨0, 0, bs [], 0⟩, false, [], ⟨0, 0, bs [], 0⟩, ⟨0, 0, bs [], 0⟩, bs [], false, false⟩ : Obj) (.t 7)), none⟩,
      ⟨some 3, (.mv (.t 8)), none⟩])
    (.seq
     (.ops [
       ⟨some 9, (.mv (.t 3)), none⟩,
       ⟨some 10, (.faddr 0 (.t 1)), none⟩,
       ⟨some 11, (.load none (.t 10)), none⟩,
       ⟨some 12, (.copy 18 (.t 9) (.t 11)), none⟩])
     (.seq
      (.seq
       (.ops [
         ⟨some 13, (.mv (.t 3)), none⟩,
         ⟨some 14, (.len false (.t 13)), none⟩,
         ⟨some 15, (.mv (.c (.int .i64 0))), none⟩])
       (.block 0
        (.loop [2, 3, 14, 15] [2, 1003] (heap_Twin.bX0 t0))))
      (heap_Twin.sX0 t0)))))
def heap_Twin.body : DC := heap_Twin.bodyX heap_Twin.t0
def heap_Twin : FD := ⟨1, [.cell 2 (some 1)], heap_Twin.body⟩
/-- 146 bailiff/heap.array -/
def heap_array.tX0 (t0 t1 t2 t3 : DC) : DC :=
  (.ops [
    ⟨some 40, (.mv (.t 39)), none⟩,
    ⟨some 41, (.load none (.t 4)), some (40, false)⟩,
    ⟨some 42, (.binf .geq (.t 41) (.c (.float 0))), some (40, false)⟩,
    ⟨some 43, (.mv (.t 42)), some (40, false)⟩,
    ⟨some 44, (.load none (.t 4)), some (43, true)⟩,
    ⟨some 45, (.binf .leq (.t 44) (.c (.float 4652218415073722368))), some (43, true)⟩,
    ⟨some 46, (.pick (.t 43) (.t 45) (.c (.bool false))), some (40, false)⟩,
    ⟨some 47, (.not (.t 46)), some (40, false)⟩,
    ⟨some 48, (.pick (.t 40) (.c (.bool true)) (.t 47)), none⟩])
def heap_array.t0 : DC := heap_array.tX0 .skip .skip .skip .skip
def heap_array.tX1 (t0 t1 t2 t3 : DC) : DC :=
  (.opsc [
    ⟨some 34, (.mv (.t 33)), none⟩,
    ⟨some 35, (.faddr 1 (.t 3)), some (34, false)⟩,
    ⟨some 36, (.faddr 0 (.t 35)), some (34, false)⟩,
    ⟨some 37, (.load none (.t 36)), some (34, false)⟩,
    ⟨some 38, (.bini .neq (.t 37) (.c (.int .u8 3))), some (34, false)⟩,
    ⟨some 39, (.pick (.t 34) (.c (.bool true)) (.t 38)), none⟩] [0, 4, 39] [4] t0)
def heap_array.t1 : DC := heap_array.tX1 heap_array.t0 .skip .skip .skip
def heap_array.tX2 (t0 t1 t2 t3 : DC) : DC :=
  (.opsc [
    ⟨some 30, (.mv (.t 29)), none⟩,
    ⟨some 31, (.faddr 15 (.t 3)), some (30, false)⟩,
    ⟨some 32, (.load none (.t 31)), some (30, false)⟩,
    ⟨some 33, (.pick (.t 30) (.c (.bool true)) (.t 32)), none⟩] [0, 3, 4, 33] [3, 4] t1)
def heap_array.t2 : DC := heap_array.tX2 heap_array.t0 heap_array.t1 .skip .skip
def heap_array.tX3 (t0 t1 t2 t3 : DC) : DC :=
        (.cond (.t 48)
         (.seq
          (.ops [
            ⟨some 2, (.mv (.c (.bool false))), none⟩])
          .ret)
         .skip)
def heap_array.t3 : DC := heap_array.tX3 heap_array.t0 heap_array.t1 heap_array.t2 .skip
def heap_array.sX3 (t : DC) : DC := .kp [0, 4, 48] [4] t
def heap_array.bodyX (t0 t1 t2 t3 : DC) : DC :=
  (.seq
   (.ops [
     ⟨some 2, (.mv (.c (.bool false))), none⟩])
   (.seq
    (.seq
     (.draw [
       ⟨some 5, (.mv (.t 0)), none⟩,
       ⟨some 6, (.len false (.t 5)), none⟩,
       ⟨some 7, (.bini .eql (.t 6) (.c (.int .i64 0))), none⟩,
       ⟨some 8, (.mv (.t 7)), none⟩,
       ⟨some 9, (.mv (.t 0)), some (8, false)⟩,
       ⟨some 10, (.iaddr false 0 18 (.t 9) (.c (.int .i64 0))), some (8, false)⟩,
       ⟨some 11, (.faddr 0 (.t 10)), some (8, false)⟩,
       ⟨some 12, (.load (some 2) (.t 11)), some (8, false)⟩,
       ⟨some 13, (.call 160 [(.c (.str (bs [108, 101, 110, 103, 116, 104])))] .key []), some (8, false)⟩,
       ⟨some 14, (.eqa true [2, 0] (.t 12) (.t 13)), some (8, false)⟩,
       ⟨some 15, (.pick (.t 8) (.c (.bool true)) (.t 14)), none⟩] [[], [0], [0, 1], [0, 1, 2], [0, 1, 2, 3], [0, 1, 2, 3, 4], [0, 1, 2, 3, 4, 5], [0, 1, 2, 3, 4, 5, 6], [0, 1, 2, 3], [0, 1, 2, 3, 4, 5, 6, 7, 8], [0, 1, 2, 3, 4, 5, 6, 7, 8, 9]])
     (.cond (.t 15)
      (.seq
       (.ops [
         ⟨some 2, (.mv (.c (.bool false))), none⟩])
       .ret)
      .skip))
    (.seq
     (.ops [
       ⟨some 16, (.mv (.t 0)), none⟩,
       ⟨some 17, (.iaddr false 0 18 (.t 16) (.c (.int .i64 0))), none⟩,
       ⟨some 18, (.faddr 2 (.t 17)), none⟩,
       ⟨some 19, (.load (some 16) (.t 18)), none⟩,
       ⟨some 3, (.alloc 3 [(.int .u8 0), (.int .u8 0), (.float 0), (.str (bs [])), (.int .i64 0), (.int .u8 0), (.float 0), (.str (bs [])), (.int .i64 0), (.int .u8 0), (.float 0), (.str (bs [])), (.int .i64 0), (.bool false), (.bool false), (.bool false)] none), none⟩,
       ⟨none, (.store 16 (.t 3) (.t 19)), none⟩])
     (.seq
      (.ops [
        ⟨some 20, (.faddr 1 (.t 3)), none⟩,
        ⟨some 21, (.faddr 1 (.t 20)), none⟩,
        ⟨some 22, (.load none (.t 21)), none⟩,
        ⟨some 4, (.alloc 4 [(.float 0)] none), none⟩,
        ⟨none, (.store 1 (.t 4) (.t 22)), none⟩])
      (.seq
       (.seq
  (.opsc [
    ⟨some 23, (.load (some 16) (.t 3)), none⟩,
    ⟨some 24, (.call 129 [(.t 23)] .bool []), none⟩,
    ⟨some 25, (.not (.t 24)), none⟩,
    ⟨some 26, (.mv (.t 25)), none⟩,
    ⟨some 27, (.faddr 14 (.t 3)), some (26, false)⟩,
    ⟨some 28, (.load none (.t 27)), some (26, false)⟩,
    ⟨some 29, (.pick (.t 26) (.c (.bool true)) (.t 28)), none⟩] [0, 3, 4, 29] [3, 4] t2)
        (heap_array.sX3 t3))
       (.seq
        (.ops [
          ⟨some 49, (.mv (.t 0)), none⟩,
          ⟨some 50, (.mkfn 147 [(.t 4)]), none⟩,
          ⟨some 51, (.call 217 [(.t 49), (.t 50)] .bool []), none⟩,
          ⟨some 52, (.not (.t 51)), none⟩,
          ⟨some 2, (.mv (.t 52)), none⟩])
        .ret))))))
def heap_array.body : DC := heap_array.bodyX heap_array.t0 heap_array.t1 heap_array.t2 heap_array.t3
def heap_array : FD := ⟨1, [.tmp 2], heap_array.body⟩
/-- 147 bailiff/heap.array$1 -/
def heap_array_1.tX0 (t0 : DC) : DC :=
  (.ops [
    ⟨some 3, (.mv (.t 18)), none⟩])
def heap_array_1.t0 : DC := heap_array_1.tX0 .skip
def heap_array_1.bodyX (t0 : DC) : DC :=
  (.seq
   (.ops [
     ⟨some 2, (.box 2 (.t 0)), none⟩,
     ⟨some 3, (.mv (.c (.bool false))), none⟩])
   (.seq
    (.ops [
      ⟨some 7, (.faddr 0 (.t 2)), none⟩,
      ⟨some 8, (.load (some 2) (.t 7)), none⟩,
      ⟨some 9, (.call 159 [(.t 8)] (.p2 (.int .i64) .bool) []), none⟩,
      ⟨some 6, (.mv (.t 9)), none⟩,
      ⟨some 10, (.ext (.t 6) 0), none⟩,
      ⟨some 11, (.ext (.t 6) 1), none⟩,
      ⟨some 4, (.mv (.t 10)), none⟩,
      ⟨some 5, (.mv (.t 11)), none⟩])
    (.seq
  (.opsc [
    ⟨some 12, (.mv (.t 5)), none⟩,
    ⟨some 13, (.mv (.t 12)), none⟩,
    ⟨some 14, (.mv (.t 4)), some (13, true)⟩,
    ⟨some 15, (.load none (.t 1)), some (13, true)⟩,
    ⟨some 16, (.f2i .i64 (.t 15)), some (13, true)⟩,
    ⟨some 17, (.bini .geq (.t 14) (.t 16)), some (13, true)⟩,
    ⟨some 18, (.pick (.t 13) (.t 17) (.c (.bool false))), none⟩] [18] [] t0)
     .ret)))
def heap_array_1.body : DC := heap_array_1.bodyX heap_array_1.t0
def heap_array_1 : FD := ⟨2, [.tmp 3], heap_array_1.body⟩
/-- 148 bailiff/heap.boxed -/
def heap_boxed.tX0 (t0 : DC) : DC :=
  (.ops [
    ⟨some 4, (.mv (.t 13)), none⟩])
def heap_boxed.t0 : DC := heap_boxed.tX0 .skip
def heap_boxed.bodyX (t0 : DC) : DC :=
  (.seq
   (.ops [
     ⟨some 3, (.box 3 (.t 1)), none⟩,
     ⟨some 4, (.mv (.c (.bool false))), none⟩])
   (.seq
  (.opsc [
    ⟨some 5, (.load none (.t 3)), none⟩,
    ⟨some 6, (.len true (.t 5)), none⟩,
    ⟨some 7, (.bini .leq (.t 6) (.c (.int .i64 4096))), none⟩,
    ⟨some 8, (.mv (.t 7)), none⟩,
    ⟨some 9, (.mv (.t 0)), some (8, true)⟩,
    ⟨some 10, (.mkfn 149 [(.t 3)]), some (8, true)⟩,
    ⟨some 11, (.call 217 [(.t 9), (.t 10)] .bool []), some (8, true)⟩,
    ⟨some 12, (.not (.t 11)), some (8, true)⟩,
    ⟨some 13, (.pick (.t 8) (.t 12) (.c (.bool false))), none⟩] [13] [] t0)
    .ret))
def heap_boxed.body : DC := heap_boxed.bodyX heap_boxed.t0
def heap_boxed : FD := ⟨2, [.tmp 4], heap_boxed.body⟩
/-- 149 bailiff/heap.boxed$1 -/
def heap_boxed_1.bodyX : DC :=
  (.seq
   (.ops [
     ⟨some 2, (.box 2 (.t 0)), none⟩,
     ⟨some 3, (.mv (.c (.bool false))), none⟩])
   (.seq
    (.ops [
      ⟨some 7, (.faddr 0 (.t 2)), none⟩,
      ⟨some 8, (.load (some 2) (.t 7)), none⟩,
      ⟨some 9, (.call 159 [(.t 8)] (.p2 (.int .i64) .bool) []), none⟩,
      ⟨some 6, (.mv (.t 9)), none⟩,
      ⟨some 10, (.ext (.t 6) 0), none⟩,
      ⟨some 11, (.ext (.t 6) 1), none⟩,
      ⟨some 4, (.mv (.t 10)), none⟩,
      ⟨some 5, (.mv (.t 11)), none⟩])
    (.seq
     (.draw [
       ⟨some 12, (.mv (.t 5)), none⟩,
       ⟨some 13, (.mv (.t 12)), none⟩,
       ⟨some 14, (.mv (.t 4)), some (13, true)⟩,
       ⟨some 15, (.load none (.t 1)), some (13, true)⟩,
       ⟨some 16, (.len true (.t 15)), some (13, true)⟩,
       ⟨some 17, (.bini .lss (.t 14) (.t 16)), some (13, true)⟩,
       ⟨some 18, (.pick (.t 13) (.t 17) (.c (.bool false))), none⟩,
       ⟨some 19, (.mv (.t 18)), none⟩,
       ⟨some 20, (.faddr 0 (.t 2)), some (19, false)⟩,
       ⟨some 21, (.load (some 2) (.t 20)), some (19, false)⟩,
       ⟨some 22, (.call 160 [(.c (.str (bs [108, 101, 110, 103, 116, 104])))] .key []), some (19, false)⟩,
       ⟨some 23, (.eqa false [2, 0] (.t 21) (.t 22)), some (19, false)⟩,
       ⟨some 24, (.pick (.t 19) (.c (.bool true)) (.t 23)), none⟩,
       ⟨some 3, (.mv (.t 24)), none⟩] [[], [0], [0, 1], [0, 1], [0, 1, 3], [0, 1, 2, 3, 4], [0, 1, 2, 3, 4, 5], [0, 1, 2, 3, 4, 5, 6], [0, 1, 2, 3, 4, 5, 6, 7], [0, 1, 2, 3, 4, 5, 6, 7, 8], [0, 1, 2, 3, 4, 5, 6, 7], [0, 1, 2, 3, 4, 5, 6, 7, 8, 9, 10], [0, 1, 2, 3, 4, 5, 6, 7, 8, 9, 10, 11], [0, 1, 2, 3, 4, 5, 6, 7, 8, 9, 10, 11, 12]])
     .ret)))
def heap_boxed_1.body : DC := heap_boxed_1.bodyX
def heap_boxed_1 : FD := ⟨2, [.tmp 3], heap_boxed_1.body⟩
/-- 150 bailiff/heap.in -/
def heap_in.bodyX : DC :=
  (.seq
   (.ops [
     ⟨some 2, (.box 2 (.t 0)), none⟩,
     ⟨some 3, (.box 3 (.t 1)), none⟩,
     ⟨some 4, (.mv (.c (.bool false))), none⟩])
   (.seq
    (.seq
     (.ops [
       ⟨some 5, (.load (some 4) (.t 3)), none⟩,
       ⟨some 6, (.call 182 [(.t 5)] .bool []), none⟩,
       ⟨some 7, (.not (.t 6)), none⟩])
     (.cond (.t 7)
      (.seq
       (.ops [
         ⟨some 4, (.mv (.c (.bool false))), none⟩])
       .ret)
      .skip))
    (.seq
     (.draw [
       ⟨some 8, (.load (some 4) (.t 3)), none⟩,
       ⟨some 9, (.call 181 [(.t 8)] .bool []), none⟩,
       ⟨some 10, (.not (.t 9)), none⟩,
       ⟨some 11, (.mv (.t 10)), none⟩,
       ⟨some 12, (.faddr 3 (.t 3)), some (11, false)⟩,
       ⟨some 13, (.load none (.t 12)), some (11, false)⟩,
       ⟨some 14, (.faddr 0 (.t 2)), some (11, false)⟩,
       ⟨some 15, (.load none (.t 14)), some (11, false)⟩,
       ⟨some 16, (.len false (.t 15)), some (11, false)⟩,
       ⟨some 17, (.bini .lss (.t 13) (.t 16)), some (11, false)⟩,
       ⟨some 18, (.mv (.t 17)), some (11, false)⟩,
       ⟨some 19, (.faddr 0 (.t 2)), some (18, true)⟩,
       ⟨some 20, (.load none (.t 19)), some (18, true)⟩,
       ⟨some 21, (.faddr 3 (.t 3)), some (18, true)⟩,
       ⟨some 22, (.load none (.t 21)), some (18, true)⟩,
       ⟨some 23, (.iaddr false 0 18 (.t 20) (.t 22)), some (18, true)⟩,
       ⟨some 24, (.load (some 18) (.t 23)), some (18, true)⟩,
       ⟨some 25, (.call 152 [(.t 24)] (.int .u8) []), some (18, true)⟩,
       ⟨some 26, (.faddr 0 (.t 3)), some (18, true)⟩,
       ⟨some 27, (.load none (.t 26)), some (18, true)⟩,
       ⟨some 28, (.bini .eql (.t 25) (.t 27)), some (18, true)⟩,
       ⟨some 29, (.pick (.t 18) (.t 28) (.c (.bool false))), some (11, false)⟩,
       ⟨some 30, (.pick (.t 11) (.c (.bool true)) (.t 29)), none⟩,
       ⟨some 4, (.mv (.t 30)), none⟩] [[], [0], [0, 1], [0, 1, 2], [0, 1, 2, 3], [0, 1, 2, 3, 4], [0, 1, 2, 3], [0, 1, 2, 3, 6], [0, 1, 2, 3, 6, 7], [0, 1, 2, 3, 4, 5, 6, 7, 8], [0, 1, 2, 3, 4, 5, 6, 7, 8, 9], [0, 1, 2, 3, 4, 5, 6, 7, 8, 9, 10], [0, 1, 2, 3, 4, 5, 6, 7, 8, 9, 10, 11], [0, 1, 2, 3, 4, 5, 6, 7, 8, 9, 10], [0, 1, 2, 3, 4, 5, 6, 7, 8, 9, 10, 13], [0, 1, 2, 3, 4, 5, 6, 7, 8, 9, 10, 11, 12, 13, 14], [0, 1, 2, 3, 4, 5, 6, 7, 8, 9, 10, 11, 12, 13, 14, 15], [0, 1, 2, 3, 4, 5, 6, 7, 8, 9, 10, 11, 12, 13, 14, 15, 16], [0, 1, 2, 3, 4, 5, 6, 7, 8, 9, 10], [0, 1, 2, 3, 4, 5, 6, 7, 8, 9, 10, 18], [0, 1, 2, 3, 4, 5, 6, 7, 8, 9, 10, 11, 12, 13, 14, 15, 16, 17, 18, 19], [0, 1, 2, 3, 4, 5, 6, 7, 8, 9, 10, 11, 12, 13, 14, 15, 16, 17, 18, 19, 20], [0, 1, 2, 3, 4, 5, 6, 7, 8, 9, 10, 11, 12, 13, 14, 15, 16, 17, 18, 19, 20, 21], [0, 1, 2, 3, 4, 5, 6, 7, 8, 9, 10, 11, 12, 13, 14, 15, 16, 17, 18, 19, 20, 21, 22]])
     .ret)))
def heap_in.body : DC := heap_in.bodyX
def heap_in : FD := ⟨2, [.tmp 4], heap_in.body⟩
/-- 151 bailiff/heap.is -/
def heap_is.tX0 (t0 : DC) : DC :=
  (.ops [
    ⟨some 4, (.mv (.t 12)), none⟩])
def heap_is.t0 : DC := heap_is.tX0 .skip
def heap_is.bodyX (t0 : DC) : DC :=
  (.seq
   (.ops [
     ⟨some 2, (.box 2 (.t 0)), none⟩,
     ⟨some 4, (.mv (.c (.bool false))), none⟩])
   (.seq
  (.opsc [
    ⟨some 5, (.faddr 0 (.t 2)), none⟩,
    ⟨some 6, (.load none (.t 5)), none⟩,
    ⟨some 7, (.mv (.t 1)), none⟩,
    ⟨some 8, (.bini .eql (.t 6) (.t 7)), none⟩,
    ⟨some 9, (.mv (.t 8)), none⟩,
    ⟨some 10, (.load (some 4) (.t 2)), some (9, true)⟩,
    ⟨some 11, (.call 182 [(.t 10)] .bool []), some (9, true)⟩,
    ⟨some 12, (.pick (.t 9) (.t 11) (.c (.bool false))), none⟩] [12] [] t0)
    .ret))
def heap_is.body : DC := heap_is.bodyX heap_is.t0
def heap_is : FD := ⟨2, [.tmp 4], heap_is.body⟩
/-- 152 bailiff/heap.kind -/
def heap_kind.bodyX : DC :=
  (.seq
   (.ops [
     ⟨some 1, (.box 1 (.t 0)), none⟩,
     ⟨some 2, (.mv (.c (.int .u8 0))), none⟩])
   (.seq
    (.block 0
     (.seq
      (.ops [
        ⟨some 4, (.faddr 17 (.t 1)), none⟩,
        ⟨some 5, (.load none (.t 4)), none⟩,
        ⟨some 3, (.mv (.t 5)), none⟩])
      (.cond (.t 3)
       (.seq
        (.ops [
          ⟨some 2, (.mv (.c (.int .u8 8))), none⟩])
        .ret)
       (.seq
        (.ops [
          ⟨some 7, (.faddr 16 (.t 1)), none⟩,
          ⟨some 8, (.load none (.t 7)), none⟩,
          ⟨some 6, (.mv (.t 8)), none⟩])
        (.cond (.t 6)
         (.seq
          (.ops [
            ⟨some 2, (.mv (.c (.int .u8 7))), none⟩])
          .ret)
         .skip)))))
    (.seq
     (.ops [
       ⟨some 2, (.mv (.c (.int .u8 6))), none⟩])
     .ret)))
def heap_kind.body : DC := heap_kind.bodyX
def heap_kind : FD := ⟨1, [.tmp 2], heap_kind.body⟩
/-- 154 bailiff/heap.loops -/
def heap_loops.bX0 (t0 t1 t2 : DC) : DC :=
  (.seq
   (.seq
    (.ops [
      ⟨some 21, (.mv (.t 3)), none⟩,
      ⟨some 22, (.mv (.t 6)), none⟩,
      ⟨some 23, (.iaddr false 0 1 (.t 21) (.t 22)), none⟩,
      ⟨some 24, (.load none (.t 23)), none⟩,
      ⟨some 25, (.not (.t 24)), none⟩])
    (.cond (.t 25)
     .skip
     (.exit 2)))
   (.block 3
    (.seq
     (.seq
      (.ops [
        ⟨some 26, (.mv (.t 5)), none⟩,
        ⟨some 27, (.mv (.t 6)), none⟩,
        ⟨some 28, (.mget false (.bool false) false [0] (.t 26) (.t 27)), none⟩])
      (.cond (.t 28)
       (.seq
        (.ops [
          ⟨some 2, (.mv (.c (.bool true))), none⟩])
        .ret)
       .skip))
     (.seq
      (.ops [
        ⟨some 29, (.mv (.t 5)), none⟩,
        ⟨some 30, (.mv (.t 6)), none⟩,
        ⟨none, (.mput false [0] (.t 29) (.t 30) (.c (.bool true))), none⟩])
      (.seq
       (.ops [
         ⟨some 31, (.faddr 0 (.t 1)), none⟩,
         ⟨some 32, (.load none (.t 31)), none⟩,
         ⟨some 33, (.mv (.t 6)), none⟩,
         ⟨some 34, (.iaddr false 0 18 (.t 32) (.t 33)), none⟩,
         ⟨some 35, (.faddr 1 (.t 34)), none⟩,
         ⟨some 36, (.load (some 4) (.t 35)), none⟩,
         ⟨some 7, (.alloc 7 [(.int .u8 0), (.float 0), (.str (bs [])), (.int .i64 0)] none), none⟩,
         ⟨none, (.store 4 (.t 7) (.t 36)), none⟩])
       (.seq
        (.seq
         (.ops [
           ⟨some 37, (.faddr 0 (.t 7)), none⟩,
           ⟨some 38, (.load none (.t 37)), none⟩,
           ⟨some 39, (.bini .eql (.t 38) (.c (.int .u8 1))), none⟩])
         (.cond (.t 39)
          (.exit 2)
          .skip))
        (.ops [
          ⟨some 40, (.faddr 3 (.t 7)), none⟩,
          ⟨some 41, (.load none (.t 40)), none⟩,
          ⟨some 6, (.mv (.t 41)), none⟩])))))))
def heap_loops.tX0 (t0 t1 t2 : DC) : DC :=
         (.rset 5 3 [42, 43, 44, 45, 46, 47, 8, 48, 49, 50])
def heap_loops.t0 : DC := heap_loops.tX0 .skip .skip .skip
def heap_loops.sX0 (t : DC) : DC := .kp [1, 3, 5, 15, 16] [1, 1003, 1005] t
def heap_loops.tX1 (t0 t1 t2 : DC) : DC :=
     (.ops [
       ⟨some 51, (.bini .add (.t 16) (.c (.int .i64 1))), none⟩,
       ⟨some 16, (.mv (.t 51)), none⟩])
def heap_loops.t1 : DC := heap_loops.tX1 heap_loops.t0 .skip .skip
def heap_loops.sX1 (t : DC) : DC := .kp [1, 3, 15, 16] [1, 1003] t
def heap_loops.bX1 (t0 t1 t2 : DC) : DC :=
  (.seq
   (.ops [
     ⟨some 17, (.bini .lss (.t 16) (.t 15)), none⟩])
   (.seq
    (.cond (.t 17)
     .skip
     (.exit 0))
    (.seq
     (.block 1
      (.seq
       (.ops [
         ⟨some 18, (.mv (.t 16)), none⟩,
         ⟨some 4, (.mv (.t 18)), none⟩])
       (.seq
        (.ops [
          ⟨some 19, (.mkmap 1005 false none), none⟩,
          ⟨some 5, (.mv (.t 19)), none⟩])
        (.seq
         (.seq
          (.ops [
            ⟨some 20, (.mv (.t 4)), none⟩,
            ⟨some 6, (.mv (.t 20)), none⟩])
          (.block 2
           (.loop [1, 3, 5, 6, 15, 16] [1, 1003, 1005] (heap_loops.bX0 t0 t1 t2))))
         (heap_loops.sX0 t0)))))
     (heap_loops.sX1 t1))))
def heap_loops.tX2 (t0 t1 t2 : DC) : DC :=
     (.seq
      (.ops [
        ⟨some 2, (.mv (.c (.bool false))), none⟩])
      .ret)
def heap_loops.t2 : DC := heap_loops.tX2 heap_loops.t0 heap_loops.t1 .skip
def heap_loops.sX2 (t : DC) : DC := .kp [] [] t
def heap_loops.bodyX (t0 t1 t2 : DC) : DC :=
  (.seq
   (.ops [
     ⟨some 1, (.box 1 (.t 0)), none⟩,
     ⟨some 2, (.mv (.c (.bool false))), none⟩])
   (.seq
    (.ops [
      ⟨some 9, (.faddr 0 (.t 1)), none⟩,
      ⟨some 10, (.load none (.t 9)), none⟩,
      ⟨some 11, (.len false (.t 10)), none⟩,
      ⟨some 12, (.mkslice 1003 .bool false (.t 11)), none⟩,
      ⟨some 3, (.mv (.t 12)), none⟩])
    (.seq
     (.seq
      (.ops [
        ⟨some 13, (.faddr 0 (.t 1)), none⟩,
        ⟨some 14, (.load none (.t 13)), none⟩,
        ⟨some 15, (.len false (.t 14)), none⟩,
        ⟨some 16, (.mv (.c (.int .i64 0))), none⟩])
      (.block 0
       (.loop [1, 3, 15, 16] [1, 1003] (heap_loops.bX1 t0 t1 t2))))
     (heap_loops.sX2 t2))))
def heap_loops.body : DC := heap_loops.bodyX heap_loops.t0 heap_loops.t1 heap_loops.t2
def heap_loops : FD := ⟨1, [.tmp 2], heap_loops.body⟩
/-- 155 bailiff/heap.object -/
def heap_object.tX0 (t0 t1 t2 t3 t4 t5 t6 t7 t8 t9 t10 t11 t12 t13 t14 t15 t16 t17 t18 t19 : DC) : DC :=
  (.ops [
    ⟨some 6, (.mv (.t 52)), none⟩])
def heap_object.t0 : DC := heap_object.tX0 .skip .skip .skip .skip .skip .skip .skip .skip .skip .skip .skip .skip .skip .skip .skip .skip .skip .skip .skip .skip
def heap_object.tX1 (t0 t1 t2 t3 t4 t5 t6 t7 t8 t9 t10 t11 t12 t13 t14 t15 t16 t17 t18 t19 : DC) : DC :=
  (.opsc [
    ⟨some 42, (.mv (.t 41)), none⟩,
    ⟨some 43, (.faddr 0 (.t 2)), some (42, true)⟩,
    ⟨some 44, (.load none (.t 43)), some (42, true)⟩,
    ⟨some 45, (.faddr 7 (.t 5)), some (42, true)⟩,
    ⟨some 46, (.faddr 3 (.t 45)), some (42, true)⟩,
    ⟨some 47, (.load none (.t 46)), some (42, true)⟩,
    ⟨some 48, (.iaddr false 0 18 (.t 44) (.t 47)), some (42, true)⟩,
    ⟨some 49, (.faddr 0 (.t 48)), some (42, true)⟩,
    ⟨some 50, (.load none (.t 49)), some (42, true)⟩,
    ⟨some 51, (.bini .eql (.t 50) (.c (.int .u8 6))), some (42, true)⟩,
    ⟨some 52, (.pick (.t 42) (.t 51) (.c (.bool false))), none⟩] [2, 5, 52] [2, 5] t0)
def heap_object.t1 : DC := heap_object.tX1 heap_object.t0 .skip .skip .skip .skip .skip .skip .skip .skip .skip .skip .skip .skip .skip .skip .skip .skip .skip .skip .skip
def heap_object.tX2 (t0 t1 t2 t3 t4 t5 t6 t7 t8 t9 t10 t11 t12 t13 t14 t15 t16 t17 t18 t19 : DC) : DC :=
  (.opsc [
    ⟨some 36, (.mv (.t 35)), none⟩,
    ⟨some 37, (.load (some 1) (.t 2)), some (36, true)⟩,
    ⟨some 38, (.faddr 7 (.t 5)), some (36, true)⟩,
    ⟨some 39, (.load (some 4) (.t 38)), some (36, true)⟩,
    ⟨some 40, (.call 150 [(.t 37), (.t 39)] .bool []), some (36, true)⟩,
    ⟨some 41, (.pick (.t 36) (.t 40) (.c (.bool false))), none⟩] [2, 5, 41] [2, 5] t1)
def heap_object.t2 : DC := heap_object.tX2 heap_object.t0 heap_object.t1 .skip .skip .skip .skip .skip .skip .skip .skip .skip .skip .skip .skip .skip .skip .skip .skip .skip .skip
def heap_object.tX3 (t0 t1 t2 t3 t4 t5 t6 t7 t8 t9 t10 t11 t12 t13 t14 t15 t16 t17 t18 t19 : DC) : DC :=
  (.opsc [
    ⟨some 29, (.mv (.t 28)), none⟩,
    ⟨some 30, (.faddr 7 (.t 5)), some (29, true)⟩,
    ⟨some 31, (.faddr 3 (.t 30)), some (29, true)⟩,
    ⟨some 32, (.load none (.t 31)), some (29, true)⟩,
    ⟨some 33, (.mv (.t 1)), some (29, true)⟩,
    ⟨some 34, (.bini .lss (.t 32) (.t 33)), some (29, true)⟩,
    ⟨some 35, (.pick (.t 29) (.t 34) (.c (.bool false))), none⟩] [2, 5, 35] [2, 5] t2)
def heap_object.t3 : DC := heap_object.tX3 heap_object.t0 heap_object.t1 heap_object.t2 .skip .skip .skip .skip .skip .skip .skip .skip .skip .skip .skip .skip .skip .skip .skip .skip .skip
def heap_object.tX4 (t0 t1 t2 t3 t4 t5 t6 t7 t8 t9 t10 t11 t12 t13 t14 t15 t16 t17 t18 t19 : DC) : DC :=
  (.ops [
    ⟨some 67, (.mv (.t 66)), none⟩,
    ⟨some 68, (.faddr 15 (.t 5)), some (67, false)⟩,
    ⟨some 69, (.load none (.t 68)), some (67, false)⟩,
    ⟨some 70, (.bins .neq (.t 69) (.c (.str (bs [])))), some (67, false)⟩,
    ⟨some 71, (.mv (.t 70)), some (67, false)⟩,
    ⟨some 72, (.faddr 0 (.t 5)), some (71, true)⟩,
    ⟨some 73, (.load none (.t 72)), some (71, true)⟩,
    ⟨some 74, (.bini .neq (.t 73) (.c (.int .u8 3))), some (71, true)⟩,
    ⟨some 75, (.pick (.t 71) (.t 74) (.c (.bool false))), some (67, false)⟩,
    ⟨some 76, (.pick (.t 67) (.c (.bool true)) (.t 75)), none⟩])
def heap_object.t4 : DC := heap_object.tX4 heap_object.t0 heap_object.t1 heap_object.t2 heap_object.t3 .skip .skip .skip .skip .skip .skip .skip .skip .skip .skip .skip .skip .skip .skip .skip .skip
def heap_object.tX5 (t0 t1 t2 t3 t4 t5 t6 t7 t8 t9 t10 t11 t12 t13 t14 t15 t16 t17 t18 t19 : DC) : DC :=
  (.opsc [
    ⟨some 61, (.mv (.t 60)), none⟩,
    ⟨some 62, (.faddr 11 (.t 5)), some (61, false)⟩,
    ⟨some 63, (.load (some 4) (.t 62)), some (61, false)⟩,
    ⟨some 64, (.call 151 [(.t 63), (.c (.int .u8 0))] .bool []), some (61, false)⟩,
    ⟨some 65, (.not (.t 64)), some (61, false)⟩,
    ⟨some 66, (.pick (.t 61) (.c (.bool true)) (.t 65)), none⟩] [2, 5, 66] [2, 5] t4)
def heap_object.t5 : DC := heap_object.tX5 heap_object.t0 heap_object.t1 heap_object.t2 heap_object.t3 heap_object.t4 .skip .skip .skip .skip .skip .skip .skip .skip .skip .skip .skip .skip .skip .skip .skip
def heap_object.tX6 (t0 t1 t2 t3 t4 t5 t6 t7 t8 t9 t10 t11 t12 t13 t14 t15 t16 t17 t18 t19 : DC) : DC :=
        (.cond (.t 76)
         (.seq
          (.ops [
            ⟨some 4, (.mv (.c (.bool false))), none⟩])
          .ret)
         .skip)
def heap_object.t6 : DC := heap_object.tX6 heap_object.t0 heap_object.t1 heap_object.t2 heap_object.t3 heap_object.t4 heap_object.t5 .skip .skip .skip .skip .skip .skip .skip .skip .skip .skip .skip .skip .skip .skip
def heap_object.sX6 (t : DC) : DC := .kp [2, 5, 76] [2, 5] t
def heap_object.tX7 (t0 t1 t2 t3 t4 t5 t6 t7 t8 t9 t10 t11 t12 t13 t14 t15 t16 t17 t18 t19 : DC) : DC :=
  (.ops [
    ⟨some 94, (.mv (.t 93)), none⟩,
    ⟨some 95, (.faddr 6 (.t 5)), some (94, false)⟩,
    ⟨some 96, (.load none (.t 95)), some (94, false)⟩,
    ⟨some 97, (.call 175 [(.t 96)] (.int .i64) []), some (94, false)⟩,
    ⟨some 98, (.bini .neq (.t 97) (.c (.int .i64 0))), some (94, false)⟩,
    ⟨some 99, (.pick (.t 94) (.c (.bool true)) (.t 98)), none⟩])
def heap_object.t7 : DC := heap_object.tX7 heap_object.t0 heap_object.t1 heap_object.t2 heap_object.t3 heap_object.t4 heap_object.t5 heap_object.t6 .skip .skip .skip .skip .skip .skip .skip .skip .skip .skip .skip .skip .skip
def heap_object.tX8 (t0 t1 t2 t3 t4 t5 t6 t7 t8 t9 t10 t11 t12 t13 t14 t15 t16 t17 t18 t19 : DC) : DC :=
  (.opsc [
    ⟨some 87, (.mv (.t 86)), none⟩,
    ⟨some 88, (.load (some 1) (.t 2)), some (87, false)⟩,
    ⟨some 89, (.faddr 1 (.t 5)), some (87, false)⟩,
    ⟨some 90, (.load (some 4) (.t 89)), some (87, false)⟩,
    ⟨some 91, (.call 150 [(.t 88), (.t 90)] .bool []), some (87, false)⟩,
    ⟨some 92, (.not (.t 91)), some (87, false)⟩,
    ⟨some 93, (.pick (.t 87) (.c (.bool true)) (.t 92)), none⟩] [2, 5, 93] [2, 5] t7)
def heap_object.t8 : DC := heap_object.tX8 heap_object.t0 heap_object.t1 heap_object.t2 heap_object.t3 heap_object.t4 heap_object.t5 heap_object.t6 heap_object.t7 .skip .skip .skip .skip .skip .skip .skip .skip .skip .skip .skip .skip
def heap_object.tX9 (t0 t1 t2 t3 t4 t5 t6 t7 t8 t9 t10 t11 t12 t13 t14 t15 t16 t17 t18 t19 : DC) : DC :=
         (.cond (.t 99)
          (.seq
           (.ops [
             ⟨some 4, (.mv (.c (.bool false))), none⟩])
           .ret)
          .skip)
def heap_object.t9 : DC := heap_object.tX9 heap_object.t0 heap_object.t1 heap_object.t2 heap_object.t3 heap_object.t4 heap_object.t5 heap_object.t6 heap_object.t7 heap_object.t8 .skip .skip .skip .skip .skip .skip .skip .skip .skip .skip .skip
def heap_object.sX9 (t : DC) : DC := .kp [2, 5, 99] [2, 5] t
def heap_object.tX10 (t0 t1 t2 t3 t4 t5 t6 t7 t8 t9 t10 t11 t12 t13 t14 t15 t16 t17 t18 t19 : DC) : DC :=
  (.ops [
    ⟨some 121, (.mv (.t 120)), none⟩,
    ⟨some 122, (.load (some 1) (.t 2)), some (121, false)⟩,
    ⟨some 123, (.faddr 2 (.t 8)), some (121, false)⟩,
    ⟨some 124, (.faddr 9 (.t 123)), some (121, false)⟩,
    ⟨some 125, (.load (some 4) (.t 124)), some (121, false)⟩,
    ⟨some 126, (.call 150 [(.t 122), (.t 125)] .bool []), some (121, false)⟩,
    ⟨some 127, (.not (.t 126)), some (121, false)⟩,
    ⟨some 128, (.pick (.t 121) (.c (.bool true)) (.t 127)), none⟩])
def heap_object.t10 : DC := heap_object.tX10 heap_object.t0 heap_object.t1 heap_object.t2 heap_object.t3 heap_object.t4 heap_object.t5 heap_object.t6 heap_object.t7 heap_object.t8 heap_object.t9 .skip .skip .skip .skip .skip .skip .skip .skip .skip .skip
def heap_object.tX11 (t0 t1 t2 t3 t4 t5 t6 t7 t8 t9 t10 t11 t12 t13 t14 t15 t16 t17 t18 t19 : DC) : DC :=
        (.cond (.t 128)
         (.seq
          (.ops [
            ⟨some 4, (.mv (.c (.bool false))), none⟩])
          .ret)
         .skip)
def heap_object.t11 : DC := heap_object.tX11 heap_object.t0 heap_object.t1 heap_object.t2 heap_object.t3 heap_object.t4 heap_object.t5 heap_object.t6 heap_object.t7 heap_object.t8 heap_object.t9 heap_object.t10 .skip .skip .skip .skip .skip .skip .skip .skip .skip
def heap_object.sX11 (t : DC) : DC := .kp [2, 5, 101, 102, 103, 128] [2, 5] t
def heap_object.bX0 (t0 t1 t2 t3 t4 t5 t6 t7 t8 t9 t10 t11 t12 t13 t14 t15 t16 t17 t18 t19 : DC) : DC :=
  (.seq
   (.ops [
     ⟨some 104, (.bini .lss (.t 103) (.t 102)), none⟩])
   (.seq
    (.cond (.t 104)
     .skip
     (.exit 0))
    (.seq
     (.block 1
      (.seq
       (.ops [
         ⟨some 105, (.iaddr false 0 18 (.t 101) (.t 103)), none⟩,
         ⟨some 106, (.load (some 18) (.t 105)), none⟩,
         ⟨some 8, (.alloc 8 [(.str (bs [])), (.int .i64 0), (.int .u8 0), (.int .u8 0), (.float 0), (.str (bs [])), (.int .i64 0), (.int .u8 0), (.float 0), (.str (bs [])), (.int .i64 0), (.int .u8 0), (.float 0), (.str (bs [])), (.int .i64 0), (.bool false), (.bool false), (.bool false)] none), none⟩,
         ⟨none, (.store 18 (.t 8) (.t 106)), none⟩])
       (.seq
  (.opsc [
    ⟨some 107, (.load (some 1) (.t 2)), none⟩,
    ⟨some 108, (.faddr 2 (.t 8)), none⟩,
    ⟨some 109, (.faddr 1 (.t 108)), none⟩,
    ⟨some 110, (.load (some 4) (.t 109)), none⟩,
    ⟨some 111, (.call 150 [(.t 107), (.t 110)] .bool []), none⟩,
    ⟨some 112, (.not (.t 111)), none⟩,
    ⟨some 113, (.mv (.t 112)), none⟩,
    ⟨some 114, (.load (some 1) (.t 2)), some (113, false)⟩,
    ⟨some 115, (.faddr 2 (.t 8)), some (113, false)⟩,
    ⟨some 116, (.faddr 5 (.t 115)), some (113, false)⟩,
    ⟨some 117, (.load (some 4) (.t 116)), some (113, false)⟩,
    ⟨some 118, (.call 150 [(.t 114), (.t 117)] .bool []), some (113, false)⟩,
    ⟨some 119, (.not (.t 118)), some (113, false)⟩,
    ⟨some 120, (.pick (.t 113) (.c (.bool true)) (.t 119)), none⟩] [2, 5, 8, 101, 102, 103, 120] [2, 5, 8] t10)
        (heap_object.sX11 t11))))
     (.ops [
       ⟨some 129, (.bini .add (.t 103) (.c (.int .i64 1))), none⟩,
       ⟨some 103, (.mv (.t 129)), none⟩]))))
def heap_object.tX12 (t0 t1 t2 t3 t4 t5 t6 t7 t8 t9 t10 t11 t12 t13 t14 t15 t16 t17 t18 t19 : DC) : DC :=
  (.ops [
    ⟨some 4, (.mv (.t 141)), none⟩])
def heap_object.t12 : DC := heap_object.tX12 heap_object.t0 heap_object.t1 heap_object.t2 heap_object.t3 heap_object.t4 heap_object.t5 heap_object.t6 heap_object.t7 heap_object.t8 heap_object.t9 heap_object.t10 heap_object.t11 .skip .skip .skip .skip .skip .skip .skip .skip
def heap_object.tX13 (t0 t1 t2 t3 t4 t5 t6 t7 t8 t9 t10 t11 t12 t13 t14 t15 t16 t17 t18 t19 : DC) : DC :=
  (.ops [
    ⟨some 4, (.mv (.t 156)), none⟩])
def heap_object.t13 : DC := heap_object.tX13 heap_object.t0 heap_object.t1 heap_object.t2 heap_object.t3 heap_object.t4 heap_object.t5 heap_object.t6 heap_object.t7 heap_object.t8 heap_object.t9 heap_object.t10 heap_object.t11 heap_object.t12 .skip .skip .skip .skip .skip .skip .skip
def heap_object.tX14 (t0 t1 t2 t3 t4 t5 t6 t7 t8 t9 t10 t11 t12 t13 t14 t15 t16 t17 t18 t19 : DC) : DC :=
  (.opsc [
    ⟨some 152, (.mv (.t 151)), none⟩,
    ⟨some 153, (.faddr 6 (.t 5)), some (152, true)⟩,
    ⟨some 154, (.load none (.t 153)), some (152, true)⟩,
    ⟨some 155, (.call 146 [(.t 154)] .bool []), some (152, true)⟩,
    ⟨some 156, (.pick (.t 152) (.t 155) (.c (.bool false))), none⟩] [156] [] t13)
def heap_object.t14 : DC := heap_object.tX14 heap_object.t0 heap_object.t1 heap_object.t2 heap_object.t3 heap_object.t4 heap_object.t5 heap_object.t6 heap_object.t7 heap_object.t8 heap_object.t9 heap_object.t10 heap_object.t11 heap_object.t12 heap_object.t13 .skip .skip .skip .skip .skip .skip
def heap_object.tX15 (t0 t1 t2 t3 t4 t5 t6 t7 t8 t9 t10 t11 t12 t13 t14 t15 t16 t17 t18 t19 : DC) : DC :=
  (.ops [
    ⟨some 4, (.mv (.t 173)), none⟩])
def heap_object.t15 : DC := heap_object.tX15 heap_object.t0 heap_object.t1 heap_object.t2 heap_object.t3 heap_object.t4 heap_object.t5 heap_object.t6 heap_object.t7 heap_object.t8 heap_object.t9 heap_object.t10 heap_object.t11 heap_object.t12 heap_object.t13 heap_object.t14 .skip .skip .skip .skip .skip
def heap_object.tX16 (t0 t1 t2 t3 t4 t5 t6 t7 t8 t9 t10 t11 t12 t13 t14 t15 t16 t17 t18 t19 : DC) : DC :=
  (.opsc [
    ⟨some 167, (.mv (.t 166)), none⟩,
    ⟨some 168, (.faddr 6 (.t 5)), some (167, true)⟩,
    ⟨some 169, (.load none (.t 168)), some (167, true)⟩,
    ⟨some 170, (.faddr 15 (.t 5)), some (167, true)⟩,
    ⟨some 171, (.load none (.t 170)), some (167, true)⟩,
    ⟨some 172, (.call 148 [(.t 169), (.t 171)] .bool []), some (167, true)⟩,
    ⟨some 173, (.pick (.t 167) (.t 172) (.c (.bool false))), none⟩] [173] [] t15)
def heap_object.t16 : DC := heap_object.tX16 heap_object.t0 heap_object.t1 heap_object.t2 heap_object.t3 heap_object.t4 heap_object.t5 heap_object.t6 heap_object.t7 heap_object.t8 heap_object.t9 heap_object.t10 heap_object.t11 heap_object.t12 heap_object.t13 heap_object.t14 heap_object.t15 .skip .skip .skip .skip
def heap_object.tX17 (t0 t1 t2 t3 t4 t5 t6 t7 t8 t9 t10 t11 t12 t13 t14 t15 t16 t17 t18 t19 : DC) : DC :=
  (.ops [
    ⟨some 4, (.mv (.t 181)), none⟩])
def heap_object.t17 : DC := heap_object.tX17 heap_object.t0 heap_object.t1 heap_object.t2 heap_object.t3 heap_object.t4 heap_object.t5 heap_object.t6 heap_object.t7 heap_object.t8 heap_object.t9 heap_object.t10 heap_object.t11 heap_object.t12 heap_object.t13 heap_object.t14 heap_object.t15 heap_object.t16 .skip .skip .skip
def heap_object.tX18 (t0 t1 t2 t3 t4 t5 t6 t7 t8 t9 t10 t11 t12 t13 t14 t15 t16 t17 t18 t19 : DC) : DC :=
         (.seq
          (.seq
           (.ops [
             ⟨some 130, (.faddr 0 (.t 5)), none⟩,
             ⟨some 131, (.load none (.t 130)), none⟩])
           (.block 2
            (.seq
             (.ops [
               ⟨some 133, (.bini .eql (.t 131) (.c (.int .u8 1))), none⟩,
               ⟨some 132, (.mv (.t 133)), none⟩])
             (.cond (.t 132)
              (.seq
  (.opsc [
    ⟨some 134, (.faddr 16 (.t 5)), none⟩,
    ⟨some 135, (.load none (.t 134)), none⟩,
    ⟨some 136, (.not (.t 135)), none⟩,
    ⟨some 137, (.mv (.t 136)), none⟩,
    ⟨some 138, (.faddr 17 (.t 5)), some (137, true)⟩,
    ⟨some 139, (.load none (.t 138)), some (137, true)⟩,
    ⟨some 140, (.not (.t 139)), some (137, true)⟩,
    ⟨some 141, (.pick (.t 137) (.t 140) (.c (.bool false))), none⟩] [141] [] t12)
               .ret)
              (.seq
               (.ops [
                 ⟨some 143, (.bini .eql (.t 131) (.c (.int .u8 2))), none⟩,
                 ⟨some 142, (.mv (.t 143)), none⟩])
               (.cond (.t 142)
                (.seq
  (.opsc [
    ⟨some 144, (.faddr 16 (.t 5)), none⟩,
    ⟨some 145, (.load none (.t 144)), none⟩,
    ⟨some 146, (.not (.t 145)), none⟩,
    ⟨some 147, (.mv (.t 146)), none⟩,
    ⟨some 148, (.faddr 17 (.t 5)), some (147, true)⟩,
    ⟨some 149, (.load none (.t 148)), some (147, true)⟩,
    ⟨some 150, (.not (.t 149)), some (147, true)⟩,
    ⟨some 151, (.pick (.t 147) (.t 150) (.c (.bool false))), none⟩] [5, 151] [5] t14)
                 .ret)
                (.seq
                 (.ops [
                   ⟨some 158, (.bini .eql (.t 131) (.c (.int .u8 3))), none⟩,
                   ⟨some 157, (.mv (.t 158)), none⟩])
                 (.cond (.t 157)
                  (.seq
  (.opsc [
    ⟨some 159, (.faddr 16 (.t 5)), none⟩,
    ⟨some 160, (.load none (.t 159)), none⟩,
    ⟨some 161, (.not (.t 160)), none⟩,
    ⟨some 162, (.mv (.t 161)), none⟩,
    ⟨some 163, (.faddr 17 (.t 5)), some (162, true)⟩,
    ⟨some 164, (.load none (.t 163)), some (162, true)⟩,
    ⟨some 165, (.not (.t 164)), some (162, true)⟩,
    ⟨some 166, (.pick (.t 162) (.t 165) (.c (.bool false))), none⟩] [5, 166] [5] t16)
                   .ret)
                  (.seq
                   (.ops [
                     ⟨some 175, (.bini .eql (.t 131) (.c (.int .u8 4))), none⟩,
                     ⟨some 174, (.mv (.t 175)), none⟩])
                   (.cond (.t 174)
                    (.seq
  (.opsc [
    ⟨some 176, (.faddr 16 (.t 5)), none⟩,
    ⟨some 177, (.load none (.t 176)), none⟩,
    ⟨some 178, (.mv (.t 177)), none⟩,
    ⟨some 179, (.faddr 17 (.t 5)), some (178, true)⟩,
    ⟨some 180, (.load none (.t 179)), some (178, true)⟩,
    ⟨some 181, (.pick (.t 178) (.t 180) (.c (.bool false))), none⟩] [181] [] t17)
                     .ret)
                    (.seq
                     (.ops [
                       ⟨some 183, (.bini .eql (.t 131) (.c (.int .u8 5))), none⟩,
                       ⟨some 182, (.mv (.t 183)), none⟩])
                     (.cond (.t 182)
                      (.seq
                       (.ops [
                         ⟨some 184, (.faddr 16 (.t 5)), none⟩,
                         ⟨some 185, (.load none (.t 184)), none⟩,
                         ⟨some 4, (.mv (.t 185)), none⟩])
                       .ret)
                      .skip))))))))))))
          (.seq
           (.ops [
             ⟨some 4, (.mv (.c (.bool false))), none⟩])
           .ret))
def heap_object.t18 : DC := heap_object.tX18 heap_object.t0 heap_object.t1 heap_object.t2 heap_object.t3 heap_object.t4 heap_object.t5 heap_object.t6 heap_object.t7 heap_object.t8 heap_object.t9 heap_object.t10 heap_object.t11 heap_object.t12 heap_object.t13 heap_object.t14 heap_object.t15 heap_object.t16 heap_object.t17 .skip .skip
def heap_object.sX18 (t : DC) : DC := .kp [5] [5] t
def heap_object.tX19 (t0 t1 t2 t3 t4 t5 t6 t7 t8 t9 t10 t11 t12 t13 t14 t15 t16 t17 t18 t19 : DC) : DC :=
      (.seq
       (.seq
  (.opsc [
    ⟨some 53, (.faddr 7 (.t 5)), none⟩,
    ⟨some 54, (.load (some 4) (.t 53)), none⟩,
    ⟨some 55, (.call 151 [(.t 54), (.c (.int .u8 0))] .bool []), none⟩,
    ⟨some 56, (.not (.t 55)), none⟩,
    ⟨some 57, (.mv (.t 56)), none⟩,
    ⟨some 58, (.mv (.t 6)), some (57, true)⟩,
    ⟨some 59, (.not (.t 58)), some (57, true)⟩,
    ⟨some 60, (.pick (.t 57) (.t 59) (.c (.bool false))), none⟩] [2, 5, 60] [2, 5] t5)
        (heap_object.sX6 t6))
       (.seq
        (.seq
  (.opsc [
    ⟨some 77, (.faddr 1 (.t 5)), none⟩,
    ⟨some 78, (.faddr 0 (.t 77)), none⟩,
    ⟨some 79, (.load none (.t 78)), none⟩,
    ⟨some 80, (.bini .neq (.t 79) (.c (.int .u8 1))), none⟩,
    ⟨some 81, (.mv (.t 80)), none⟩,
    ⟨some 82, (.faddr 1 (.t 5)), some (81, true)⟩,
    ⟨some 83, (.load (some 4) (.t 82)), some (81, true)⟩,
    ⟨some 84, (.call 181 [(.t 83)] .bool []), some (81, true)⟩,
    ⟨some 85, (.not (.t 84)), some (81, true)⟩,
    ⟨some 86, (.pick (.t 81) (.t 85) (.c (.bool false))), none⟩] [2, 5, 86] [2, 5] t8)
         (heap_object.sX9 t9))
        (.seq
         (.seq
          (.ops [
            ⟨some 100, (.faddr 6 (.t 5)), none⟩,
            ⟨some 101, (.load none (.t 100)), none⟩,
            ⟨some 102, (.len false (.t 101)), none⟩,
            ⟨some 103, (.mv (.c (.int .i64 0))), none⟩])
          (.block 0
           (.loop [2, 5, 101, 102, 103] [2, 5] (heap_object.bX0 t0 t1 t2 t3 t4 t5 t6 t7 t8 t9 t10 t11 t12 t13 t14 t15 t16 t17 t18 t19))))
         (heap_object.sX18 t18))))
def heap_object.t19 : DC := heap_object.tX19 heap_object.t0 heap_object.t1 heap_object.t2 heap_object.t3 heap_object.t4 heap_object.t5 heap_object.t6 heap_object.t7 heap_object.t8 heap_object.t9 heap_object.t10 heap_object.t11 heap_object.t12 heap_object.t13 heap_object.t14 heap_object.t15 heap_object.t16 heap_object.t17 heap_object.t18 .skip
def heap_object.sX19 (t : DC) : DC := .kp [2, 5, 6] [2, 5] t
def heap_object.bodyX (t0 t1 t2 t3 t4 t5 t6 t7 t8 t9 t10 t11 t12 t13 t14 t15 t16 t17 t18 t19 : DC) : DC :=
  (.seq
   (.ops [
     ⟨some 2, (.box 2 (.t 0)), none⟩,
     ⟨some 4, (.mv (.c (.bool false))), none⟩])
   (.seq
    (.ops [
      ⟨some 9, (.faddr 0 (.t 2)), none⟩,
      ⟨some 10, (.load none (.t 9)), none⟩,
      ⟨some 11, (.mv (.t 1)), none⟩,
      ⟨some 12, (.iaddr false 0 18 (.t 10) (.t 11)), none⟩,
      ⟨some 13, (.load (some 18) (.t 12)), none⟩,
      ⟨some 5, (.alloc 5 [(.int .u8 0), (.int .u8 0), (.float 0), (.str (bs [])), (.int .i64 0), (.bool false), (.nsl .prp), (.int .u8 0), (.float 0), (.str (bs [])), (.int .i64 0), (.int .u8 0), (.float 0), (.str (bs [])), (.int .i64 0), (.str (bs [])), (.bool false), (.bool false)] none), none⟩,
      ⟨none, (.store 18 (.t 5) (.t 13)), none⟩])
    (.seq
     (.seq
      (.ops [
        ⟨some 14, (.faddr 0 (.t 5)), none⟩,
        ⟨some 15, (.load none (.t 14)), none⟩,
        ⟨some 16, (.bini .eql (.t 15) (.c (.int .u8 6))), none⟩])
      (.cond (.t 16)
       (.seq
        (.ops [
          ⟨some 17, (.load (some 1) (.t 2)), none⟩,
          ⟨some 18, (.load (some 18) (.t 5)), none⟩,
          ⟨some 19, (.mv (.t 1)), none⟩,
          ⟨some 20, (.call 157 [(.t 17), (.t 18), (.t 19)] .bool []), none⟩,
          ⟨some 4, (.mv (.t 20)), none⟩])
        .ret)
       .skip))
     (.seq
  (.opsc [
    ⟨some 21, (.faddr 0 (.t 5)), none⟩,
    ⟨some 22, (.load none (.t 21)), none⟩,
    ⟨some 23, (.bini .eql (.t 22) (.c (.int .u8 5))), none⟩,
    ⟨some 24, (.mv (.t 23)), none⟩,
    ⟨some 25, (.faddr 7 (.t 5)), some (24, true)⟩,
    ⟨some 26, (.load (some 4) (.t 25)), some (24, true)⟩,
    ⟨some 27, (.call 181 [(.t 26)] .bool []), some (24, true)⟩,
    ⟨some 28, (.pick (.t 24) (.t 27) (.c (.bool false))), none⟩] [1, 2, 5, 28] [2, 5] t3)
      (heap_object.sX19 t19)))))
def heap_object.body : DC := heap_object.bodyX heap_object.t0 heap_object.t1 heap_object.t2 heap_object.t3 heap_object.t4 heap_object.t5 heap_object.t6 heap_object.t7 heap_object.t8 heap_object.t9 heap_object.t10 heap_object.t11 heap_object.t12 heap_object.t13 heap_object.t14 heap_object.t15 heap_object.t16 heap_object.t17 heap_object.t18 heap_object.t19
def heap_object : FD := ⟨2, [.tmp 4], heap_object.body⟩
/-- 156 bailiff/heap.one -/
def heap_one.bodyX : DC :=
  (.seq
   (.ops [
     ⟨some 1, (.box 1 (.t 0)), none⟩,
     ⟨some 2, (.alloc 2 [(.int .u8 0), (.int .u8 0), (.float 0), (.str (bs [])), (.int .i64 0), (.bool false), (.nsl .prp), (.int .u8 0), (.float 0), (.str (bs [])), (.int .i64 0), (.int .u8 0), (.float 0), (.str (bs [])), (.int .i64 0), (.str (bs [])), (.bool false), (.bool false)] none), none⟩])
   (.seq
    (.ops [
      ⟨some 3, (.faddr 6 (.t 1)), none⟩,
      ⟨some 4, (.load none (.t 3)), none⟩,
      ⟨some 5, (.call 216 [(.t 4)] (.lst false .prp) []), none⟩,
      ⟨some 6, (.faddr 6 (.t 1)), none⟩,
      ⟨none, (.store 1 (.t 6) (.t 5)), none⟩])
    (.seq
     (.ops [
       ⟨some 7, (.load (some 18) (.t 1)), none⟩,
       ⟨none, (.store 18 (.t 2) (.t 7)), none⟩])
     .ret)))
def heap_one.body : DC := heap_one.bodyX
def heap_one : FD := ⟨1, [.cell 2 (some 18)], heap_one.body⟩
/-- 157 bailiff/heap.proxy -/
def heap_proxy.tX0 (t0 t1 t2 t3 t4 t5 t6 t7 t8 : DC) : DC :=
  (.ops [
    ⟨some 29, (.mv (.t 28)), none⟩,
    ⟨some 30, (.faddr 17 (.t 4)), some (29, false)⟩,
    ⟨some 31, (.load none (.t 30)), some (29, false)⟩,
    ⟨some 32, (.mv (.t 31)), some (29, false)⟩,
    ⟨some 33, (.faddr 16 (.t 4)), some (32, true)⟩,
    ⟨some 34, (.load none (.t 33)), some (32, true)⟩,
    ⟨some 35, (.not (.t 34)), some (32, true)⟩,
    ⟨some 36, (.pick (.t 32) (.t 35) (.c (.bool false))), some (29, false)⟩,
    ⟨some 37, (.pick (.t 29) (.c (.bool true)) (.t 36)), none⟩])
def heap_proxy.t0 : DC := heap_proxy.tX0 .skip .skip .skip .skip .skip .skip .skip .skip .skip
def heap_proxy.tX1 (t0 t1 t2 t3 t4 t5 t6 t7 t8 : DC) : DC :=
  (.opsc [
    ⟨some 24, (.mv (.t 23)), none⟩,
    ⟨some 25, (.faddr 15 (.t 4)), some (24, false)⟩,
    ⟨some 26, (.load none (.t 25)), some (24, false)⟩,
    ⟨some 27, (.bins .neq (.t 26) (.c (.str (bs [])))), some (24, false)⟩,
    ⟨some 28, (.pick (.t 24) (.c (.bool true)) (.t 27)), none⟩] [2, 3, 4, 28] [3, 4] t0)
def heap_proxy.t1 : DC := heap_proxy.tX1 heap_proxy.t0 .skip .skip .skip .skip .skip .skip .skip .skip
def heap_proxy.tX2 (t0 t1 t2 t3 t4 t5 t6 t7 t8 : DC) : DC :=
  (.opsc [
    ⟨some 18, (.mv (.t 17)), none⟩,
    ⟨some 19, (.faddr 1 (.t 4)), some (18, false)⟩,
    ⟨some 20, (.load (some 4) (.t 19)), some (18, false)⟩,
    ⟨some 21, (.call 151 [(.t 20), (.c (.int .u8 1))] .bool []), some (18, false)⟩,
    ⟨some 22, (.not (.t 21)), some (18, false)⟩,
    ⟨some 23, (.pick (.t 18) (.c (.bool true)) (.t 22)), none⟩] [2, 3, 4, 23] [3, 4] t1)
def heap_proxy.t2 : DC := heap_proxy.tX2 heap_proxy.t0 heap_proxy.t1 .skip .skip .skip .skip .skip .skip .skip
def heap_proxy.tX3 (t0 t1 t2 t3 t4 t5 t6 t7 t8 : DC) : DC :=
     (.cond (.t 37)
      (.seq
       (.ops [
         ⟨some 6, (.mv (.c (.bool false))), none⟩])
       .ret)
      .skip)
def heap_proxy.t3 : DC := heap_proxy.tX3 heap_proxy.t0 heap_proxy.t1 heap_proxy.t2 .skip .skip .skip .skip .skip .skip
def heap_proxy.sX3 (t : DC) : DC := .kp [2, 3, 4, 37] [3, 4] t
def heap_proxy.tX4 (t0 t1 t2 t3 t4 t5 t6 t7 t8 : DC) : DC :=
      (.cond (.t 45)
       (.seq
        (.ops [
          ⟨some 6, (.mv (.c (.bool true))), none⟩])
        .ret)
       .skip)
def heap_proxy.t4 : DC := heap_proxy.tX4 heap_proxy.t0 heap_proxy.t1 heap_proxy.t2 heap_proxy.t3 .skip .skip .skip .skip .skip
def heap_proxy.sX4 (t : DC) : DC := .kp [2, 3, 4, 45] [3, 4] t
def heap_proxy.tX5 (t0 t1 t2 t3 t4 t5 t6 t7 t8 : DC) : DC :=
  (.ops [
    ⟨some 65, (.mv (.t 64)), none⟩,
    ⟨some 66, (.faddr 3 (.t 8)), some (65, false)⟩,
    ⟨some 67, (.load none (.t 66)), some (65, false)⟩,
    ⟨some 68, (.mv (.t 2)), some (65, false)⟩,
    ⟨some 69, (.bini .geq (.t 67) (.t 68)), some (65, false)⟩,
    ⟨some 70, (.pick (.t 65) (.c (.bool true)) (.t 69)), none⟩])
def heap_proxy.t5 : DC := heap_proxy.tX5 heap_proxy.t0 heap_proxy.t1 heap_proxy.t2 heap_proxy.t3 heap_proxy.t4 .skip .skip .skip .skip
def heap_proxy.tX6 (t0 t1 t2 t3 t4 t5 t6 t7 t8 : DC) : DC :=
        (.cond (.t 70)
         (.seq
          (.ops [
            ⟨some 6, (.mv (.c (.bool false))), none⟩])
          .ret)
         .skip)
def heap_proxy.t6 : DC := heap_proxy.tX6 heap_proxy.t0 heap_proxy.t1 heap_proxy.t2 heap_proxy.t3 heap_proxy.t4 heap_proxy.t5 .skip .skip .skip
def heap_proxy.sX6 (t : DC) : DC := .kp [2, 3, 4, 50, 51, 52, 70] [3, 4] t
def heap_proxy.bX0 (t0 t1 t2 t3 t4 t5 t6 t7 t8 : DC) : DC :=
  (.seq
   (.ops [
     ⟨some 53, (.bini .lss (.t 52) (.t 51)), none⟩])
   (.seq
    (.cond (.t 53)
     .skip
     (.exit 0))
    (.seq
     (.block 1
      (.seq
       (.ops [
         ⟨some 54, (.iaddr false 0 4 (.t 50) (.t 52)), none⟩,
         ⟨some 55, (.load (some 4) (.t 54)), none⟩,
         ⟨some 8, (.alloc 8 [(.int .u8 0), (.float 0), (.str (bs [])), (.int .i64 0)] none), none⟩,
         ⟨none, (.store 4 (.t 8) (.t 55)), none⟩])
       (.seq
  (.opsc [
    ⟨some 56, (.load (some 4) (.t 8)), none⟩,
    ⟨some 57, (.call 181 [(.t 56)] .bool []), none⟩,
    ⟨some 58, (.not (.t 57)), none⟩,
    ⟨some 59, (.mv (.t 58)), none⟩,
    ⟨some 60, (.load (some 1) (.t 3)), some (59, false)⟩,
    ⟨some 61, (.load (some 4) (.t 8)), some (59, false)⟩,
    ⟨some 62, (.call 150 [(.t 60), (.t 61)] .bool []), some (59, false)⟩,
    ⟨some 63, (.not (.t 62)), some (59, false)⟩,
    ⟨some 64, (.pick (.t 59) (.c (.bool true)) (.t 63)), none⟩] [2, 3, 4, 8, 50, 51, 52, 64] [3, 4, 8] t5)
        (heap_proxy.sX6 t6))))
     (.ops [
       ⟨some 71, (.bini .add (.t 52) (.c (.int .i64 1))), none⟩,
       ⟨some 52, (.mv (.t 71)), none⟩]))))
def heap_proxy.tX7 (t0 t1 t2 t3 t4 t5 t6 t7 t8 : DC) : DC :=
  (.ops [
    ⟨some 6, (.mv (.t 90)), none⟩])
def heap_proxy.t7 : DC := heap_proxy.tX7 heap_proxy.t0 heap_proxy.t1 heap_proxy.t2 heap_proxy.t3 heap_proxy.t4 heap_proxy.t5 heap_proxy.t6 .skip .skip
def heap_proxy.tX8 (t0 t1 t2 t3 t4 t5 t6 t7 t8 : DC) : DC :=
      (.seq
       (.ops [
         ⟨some 72, (.faddr 0 (.t 3)), none⟩,
         ⟨some 73, (.load none (.t 72)), none⟩,
         ⟨some 74, (.faddr 7 (.t 4)), none⟩,
         ⟨some 75, (.faddr 3 (.t 74)), none⟩,
         ⟨some 76, (.load none (.t 75)), none⟩,
         ⟨some 77, (.iaddr false 0 18 (.t 73) (.t 76)), none⟩,
         ⟨some 78, (.load (some 18) (.t 77)), none⟩,
         ⟨some 9, (.alloc 9 [(.int .u8 0), (.int .u8 0), (.float 0), (.str (bs [])), (.int .i64 0), (.bool false), (.nsl .prp), (.int .u8 0), (.float 0), (.str (bs [])), (.int .i64 0), (.int .u8 0), (.float 0), (.str (bs [])), (.int .i64 0), (.str (bs [])), (.bool false), (.bool false)] none), none⟩,
         ⟨none, (.store 18 (.t 9) (.t 78)), none⟩])
       (.seq
  (.opsc [
    ⟨some 79, (.faddr 16 (.t 9)), none⟩,
    ⟨some 80, (.load none (.t 79)), none⟩,
    ⟨some 81, (.faddr 16 (.t 4)), none⟩,
    ⟨some 82, (.load none (.t 81)), none⟩,
    ⟨some 83, (.eqb false (.t 80) (.t 82)), none⟩,
    ⟨some 84, (.mv (.t 83)), none⟩,
    ⟨some 85, (.faddr 17 (.t 9)), some (84, true)⟩,
    ⟨some 86, (.load none (.t 85)), some (84, true)⟩,
    ⟨some 87, (.faddr 17 (.t 4)), some (84, true)⟩,
    ⟨some 88, (.load none (.t 87)), some (84, true)⟩,
    ⟨some 89, (.eqb false (.t 86) (.t 88)), some (84, true)⟩,
    ⟨some 90, (.pick (.t 84) (.t 89) (.c (.bool false))), none⟩] [90] [] t7)
        .ret))
def heap_proxy.t8 : DC := heap_proxy.tX8 heap_proxy.t0 heap_proxy.t1 heap_proxy.t2 heap_proxy.t3 heap_proxy.t4 heap_proxy.t5 heap_proxy.t6 heap_proxy.t7 .skip
def heap_proxy.sX8 (t : DC) : DC := .kp [3, 4] [3, 4] t
def heap_proxy.bodyX (t0 t1 t2 t3 t4 t5 t6 t7 t8 : DC) : DC :=
  (.seq
   (.ops [
     ⟨some 3, (.box 3 (.t 0)), none⟩,
     ⟨some 4, (.box 4 (.t 1)), none⟩,
     ⟨some 6, (.mv (.c (.bool false))), none⟩])
   (.seq
    (.seq
  (.opsc [
    ⟨some 10, (.faddr 6 (.t 4)), none⟩,
    ⟨some 11, (.load none (.t 10)), none⟩,
    ⟨some 12, (.len false (.t 11)), none⟩,
    ⟨some 13, (.bini .gtr (.t 12) (.c (.int .i64 0))), none⟩,
    ⟨some 14, (.mv (.t 13)), none⟩,
    ⟨some 15, (.faddr 5 (.t 4)), some (14, false)⟩,
    ⟨some 16, (.load none (.t 15)), some (14, false)⟩,
    ⟨some 17, (.pick (.t 14) (.c (.bool true)) (.t 16)), none⟩] [2, 3, 4, 17] [3, 4] t2)
     (heap_proxy.sX3 t3))
    (.seq
     (.seq
      (.ops [
        ⟨some 38, (.faddr 7 (.t 4)), none⟩,
        ⟨some 39, (.load (some 4) (.t 38)), none⟩,
        ⟨some 40, (.call 151 [(.t 39), (.c (.int .u8 1))] .bool []), none⟩,
        ⟨some 41, (.mv (.t 40)), none⟩,
        ⟨some 42, (.faddr 11 (.t 4)), some (41, true)⟩,
        ⟨some 43, (.load (some 4) (.t 42)), some (41, true)⟩,
        ⟨some 44, (.call 151 [(.t 43), (.c (.int .u8 1))] .bool []), some (41, true)⟩,
        ⟨some 45, (.pick (.t 41) (.t 44) (.c (.bool false))), none⟩])
      (heap_proxy.sX4 t4))
     (.seq
      (.seq
       (.ops [
         ⟨some 46, (.faddr 7 (.t 4)), none⟩,
         ⟨some 47, (.load (some 4) (.t 46)), none⟩,
         ⟨some 48, (.faddr 11 (.t 4)), none⟩,
         ⟨some 49, (.load (some 4) (.t 48)), none⟩,
         ⟨some 50, (.bslice none .val (List.replicate 2 (⟨0, 0, bs [], 0⟩ : Val)) [(0, (.t 47)), (1, (.t 49))]), none⟩,
         ⟨some 51, (.len false (.t 50)), none⟩,
         ⟨some 52, (.mv (.c (.int .i64 0))), none⟩])
       (.block 0
        (.loop [2, 3, 4, 50, 51, 52] [3, 4] (heap_proxy.bX0 t0 t1 t2 t3 t4 t5 t6 t7 t8))))
      (heap_proxy.sX8 t8)))))
def heap_proxy.body : DC := heap_proxy.bodyX heap_proxy.t0 heap_proxy.t1 heap_proxy.t2 heap_proxy.t3 heap_proxy.t4 heap_proxy.t5 heap_proxy.t6 heap_proxy.t7 heap_proxy.t8
def heap_proxy : FD := ⟨3, [.tmp 6], heap_proxy.body⟩
/-- 158 bailiff/key.Check -/
def key_Check.tX0 (t0 t1 : DC) : DC :=
  (.ops [
    ⟨some 12, (.mv (.t 11)), none⟩,
    ⟨some 13, (.faddr 1 (.t 1)), some (12, false)⟩,
    ⟨some 14, (.load none (.t 13)), some (12, false)⟩,
    ⟨some 15, (.bini .gtr (.t 14) (.c (.int .i64 0))), some (12, false)⟩,
    ⟨some 16, (.mv (.t 15)), some (12, false)⟩,
    ⟨some 17, (.faddr 0 (.t 1)), some (16, true)⟩,
    ⟨some 18, (.load none (.t 17)), some (16, true)⟩,
    ⟨some 19, (.bins .neq (.t 18) (.c (.str (bs [])))), some (16, true)⟩,
    ⟨some 20, (.pick (.t 16) (.t 19) (.c (.bool false))), some (12, false)⟩,
    ⟨some 21, (.pick (.t 12) (.c (.bool true)) (.t 20)), none⟩])
def key_Check.t0 : DC := key_Check.tX0 .skip .skip
def key_Check.tX1 (t0 t1 : DC) : DC :=
     (.cond (.t 21)
      (.seq
       (.ops [
         ⟨some 2, (.mv (.c (.int .i64 9))), none⟩])
       .ret)
      .skip)
def key_Check.t1 : DC := key_Check.tX1 key_Check.t0 .skip
def key_Check.sX1 (t : DC) : DC := .kp [21] [] t
def key_Check.bodyX (t0 t1 : DC) : DC :=
  (.seq
   (.ops [
     ⟨some 1, (.box 1 (.t 0)), none⟩,
     ⟨some 2, (.mv (.c (.int .i64 0))), none⟩])
   (.seq
    (.seq
  (.opsc [
    ⟨some 3, (.faddr 1 (.t 1)), none⟩,
    ⟨some 4, (.load none (.t 3)), none⟩,
    ⟨some 5, (.bini .lss (.t 4) (.c (.int .i64 0))), none⟩,
    ⟨some 6, (.mv (.t 5)), none⟩,
    ⟨some 7, (.faddr 0 (.t 1)), some (6, false)⟩,
    ⟨some 8, (.load none (.t 7)), some (6, false)⟩,
    ⟨some 9, (.len true (.t 8)), some (6, false)⟩,
    ⟨some 10, (.bini .gtr (.t 9) (.c (.int .i64 4096))), some (6, false)⟩,
    ⟨some 11, (.pick (.t 6) (.c (.bool true)) (.t 10)), none⟩] [1, 11] [1] t0)
     (key_Check.sX1 t1))
    (.seq
     (.ops [
       ⟨some 2, (.mv (.c (.int .i64 0))), none⟩])
     .ret)))
def key_Check.body : DC := key_Check.bodyX key_Check.t0 key_Check.t1
def key_Check : FD := ⟨1, [.tmp 2], key_Check.body⟩
/-- 159 bailiff/key.Index -/
def key_Index.tX0 (t0 t1 t2 t3 t4 : DC) : DC :=
  (.ops [
    ⟨some 20, (.mv (.t 19)), none⟩,
    ⟨some 21, (.faddr 0 (.t 1)), some (20, false)⟩,
    ⟨some 22, (.load none (.t 21)), some (20, false)⟩,
    ⟨some 23, (.len true (.t 22)), some (20, false)⟩,
    ⟨some 24, (.bini .gtr (.t 23) (.c (.int .i64 1))), some (20, false)⟩,
    ⟨some 25, (.mv (.t 24)), some (20, false)⟩,
    ⟨some 26, (.faddr 0 (.t 1)), some (25, true)⟩,
    ⟨some 27, (.load none (.t 26)), some (25, true)⟩,
    ⟨some 28, (.idxs (.t 27) (.c (.int .i64 0))), some (25, true)⟩,
    ⟨some 29, (.bini .eql (.t 28) (.c (.int .u8 48))), some (25, true)⟩,
    ⟨some 30, (.pick (.t 25) (.t 29) (.c (.bool false))), some (20, false)⟩,
    ⟨some 31, (.pick (.t 20) (.c (.bool true)) (.t 30)), none⟩])
def key_Index.t0 : DC := key_Index.tX0 .skip .skip .skip .skip .skip
def key_Index.tX1 (t0 t1 t2 t3 t4 : DC) : DC :=
  (.opsc [
    ⟨some 14, (.mv (.t 13)), none⟩,
    ⟨some 15, (.faddr 0 (.t 1)), some (14, false)⟩,
    ⟨some 16, (.load none (.t 15)), some (14, false)⟩,
    ⟨some 17, (.len true (.t 16)), some (14, false)⟩,
    ⟨some 18, (.bini .gtr (.t 17) (.c (.int .i64 4))), some (14, false)⟩,
    ⟨some 19, (.pick (.t 14) (.c (.bool true)) (.t 18)), none⟩] [1, 19] [1] t0)
def key_Index.t1 : DC := key_Index.tX1 key_Index.t0 .skip .skip .skip .skip
def key_Index.tX2 (t0 t1 t2 t3 t4 : DC) : DC :=
     (.cond (.t 31)
      (.seq
       (.ops [
         ⟨some 2, (.mv (.c (.int .i64 0))), none⟩,
         ⟨some 3, (.mv (.c (.bool false))), none⟩])
       .ret)
      .skip)
def key_Index.t2 : DC := key_Index.tX2 key_Index.t0 key_Index.t1 .skip .skip .skip
def key_Index.sX2 (t : DC) : DC := .kp [1, 31] [1] t
def key_Index.tX3 (t0 t1 t2 t3 t4 : DC) : DC :=
         (.cond (.t 49)
          (.seq
           (.ops [
             ⟨some 2, (.mv (.c (.int .i64 0))), none⟩,
             ⟨some 3, (.mv (.c (.bool false))), none⟩])
           .ret)
          .skip)
def key_Index.t3 : DC := key_Index.tX3 key_Index.t0 key_Index.t1 key_Index.t2 .skip .skip
def key_Index.sX3 (t : DC) : DC := .kp [1, 4, 5, 34, 35, 49] [1] t
def key_Index.bX0 (t0 t1 t2 t3 t4 : DC) : DC :=
  (.seq
   (.ops [
     ⟨some 36, (.bini .lss (.t 35) (.t 34)), none⟩])
   (.seq
    (.cond (.t 36)
     .skip
     (.exit 0))
    (.seq
     (.block 1
      (.seq
       (.ops [
         ⟨some 37, (.mv (.t 35)), none⟩,
         ⟨some 5, (.mv (.t 37)), none⟩])
       (.seq
        (.seq
         (.ops [
           ⟨some 38, (.faddr 0 (.t 1)), none⟩,
           ⟨some 39, (.load none (.t 38)), none⟩,
           ⟨some 40, (.mv (.t 5)), none⟩,
           ⟨some 41, (.idxs (.t 39) (.t 40)), none⟩,
           ⟨some 42, (.bini .lss (.t 41) (.c (.int .u8 48))), none⟩,
           ⟨some 43, (.mv (.t 42)), none⟩,
           ⟨some 44, (.faddr 0 (.t 1)), some (43, false)⟩,
           ⟨some 45, (.load none (.t 44)), some (43, false)⟩,
           ⟨some 46, (.mv (.t 5)), some (43, false)⟩,
           ⟨some 47, (.idxs (.t 45) (.t 46)), some (43, false)⟩,
           ⟨some 48, (.bini .gtr (.t 47) (.c (.int .u8 57))), some (43, false)⟩,
           ⟨some 49, (.pick (.t 43) (.c (.bool true)) (.t 48)), none⟩])
         (key_Index.sX3 t3))
        (.ops [
          ⟨some 50, (.mv (.t 4)), none⟩,
          ⟨some 51, (.bini .mul (.t 50) (.c (.int .i64 10))), none⟩,
          ⟨some 52, (.faddr 0 (.t 1)), none⟩,
          ⟨some 53, (.load none (.t 52)), none⟩,
          ⟨some 54, (.mv (.t 5)), none⟩,
          ⟨some 55, (.idxs (.t 53) (.t 54)), none⟩,
          ⟨some 56, (.bini .sub (.t 55) (.c (.int .u8 48))), none⟩,
          ⟨some 57, (.conv .i64 (.t 56)), none⟩,
          ⟨some 58, (.bini .add (.t 51) (.t 57)), none⟩,
          ⟨some 4, (.mv (.t 58)), none⟩]))))
     (.ops [
       ⟨some 59, (.bini .add (.t 35) (.c (.int .i64 1))), none⟩,
       ⟨some 35, (.mv (.t 59)), none⟩]))))
def key_Index.tX4 (t0 t1 t2 t3 t4 : DC) : DC :=
      (.seq
       (.seq
        (.ops [
          ⟨some 60, (.mv (.t 4)), none⟩,
          ⟨some 61, (.bini .geq (.t 60) (.c (.int .i64 1024))), none⟩])
        (.cond (.t 61)
         (.seq
          (.ops [
            ⟨some 2, (.mv (.c (.int .i64 0))), none⟩,
            ⟨some 3, (.mv (.c (.bool false))), none⟩])
          .ret)
         .skip))
       (.seq
        (.ops [
          ⟨some 62, (.mv (.t 4)), none⟩,
          ⟨some 2, (.mv (.t 62)), none⟩,
          ⟨some 3, (.mv (.c (.bool true))), none⟩])
        .ret))
def key_Index.t4 : DC := key_Index.tX4 key_Index.t0 key_Index.t1 key_Index.t2 key_Index.t3 .skip
def key_Index.sX4 (t : DC) : DC := .kp [4] [] t
def key_Index.bodyX (t0 t1 t2 t3 t4 : DC) : DC :=
  (.seq
   (.ops [
     ⟨some 1, (.box 1 (.t 0)), none⟩,
     ⟨some 2, (.mv (.c (.int .i64 0))), none⟩,
     ⟨some 3, (.mv (.c (.bool false))), none⟩])
   (.seq
    (.seq
  (.opsc [
    ⟨some 6, (.faddr 1 (.t 1)), none⟩,
    ⟨some 7, (.load none (.t 6)), none⟩,
    ⟨some 8, (.bini .gtr (.t 7) (.c (.int .i64 0))), none⟩,
    ⟨some 9, (.mv (.t 8)), none⟩,
    ⟨some 10, (.faddr 0 (.t 1)), some (9, false)⟩,
    ⟨some 11, (.load none (.t 10)), some (9, false)⟩,
    ⟨some 12, (.bins .eql (.t 11) (.c (.str (bs [])))), some (9, false)⟩,
    ⟨some 13, (.pick (.t 9) (.c (.bool true)) (.t 12)), none⟩] [1, 13] [1] t1)
     (key_Index.sX2 t2))
    (.seq
     (.ops [
       ⟨some 4, (.mv (.c (.int .i64 0))), none⟩])
     (.seq
      (.seq
       (.ops [
         ⟨some 32, (.faddr 0 (.t 1)), none⟩,
         ⟨some 33, (.load none (.t 32)), none⟩,
         ⟨some 34, (.len true (.t 33)), none⟩,
         ⟨some 35, (.mv (.c (.int .i64 0))), none⟩])
       (.block 0
        (.loop [1, 4, 34, 35] [1] (key_Index.bX0 t0 t1 t2 t3 t4))))
      (key_Index.sX4 t4)))))
def key_Index.body : DC := key_Index.bodyX key_Index.t0 key_Index.t1 key_Index.t2 key_Index.t3 key_Index.t4
def key_Index : FD := ⟨1, [.tmp 2, .tmp 3], key_Index.body⟩
/-- 160 bailiff/key.Of -/
def key_Of.bodyX : DC :=
  (.seq
   (.ops [
     ⟨some 2, (.alloc 2 [(.str (bs [])), (.int .i64 0)] none), none⟩])
   (.seq
    (.ops [
      ⟨some 3, (.mv (.t 0)), none⟩,
      ⟨some 4, (.build [(.str (bs [])), (.int .i64 0)] [((0, 1), (.t 3))]), none⟩,
      ⟨none, (.store 2 (.t 2) (.t 4)), none⟩])
    .ret))
def key_Of.body : DC := key_Of.bodyX
def key_Of : FD := ⟨1, [.cell 2 (some 2)], key_Of.body⟩
/-- 161 bailiff/num.May -/
def num_May.tX0 (t0 : DC) : DC :=
  (.ops [
    ⟨some 2, (.mv (.t 25)), none⟩])
def num_May.t0 : DC := num_May.tX0 .skip
def num_May.bodyX (t0 : DC) : DC :=
  (.seq
   (.ops [
     ⟨some 2, (.mv (.c (.bool false))), none⟩])
   (.seq
  (.opsc [
    ⟨some 3, (.mv (.t 0)), none⟩,
    ⟨some 4, (.mv (.t 0)), none⟩,
    ⟨some 5, (.binf .neq (.t 3) (.t 4)), none⟩,
    ⟨some 6, (.mv (.t 5)), none⟩,
    ⟨some 7, (.mv (.t 0)), some (6, false)⟩,
    ⟨some 8, (.call 213 [(.t 7)] .float []), some (6, false)⟩,
    ⟨some 9, (.mv (.t 0)), some (6, false)⟩,
    ⟨some 10, (.binf .eql (.t 8) (.t 9)), some (6, false)⟩,
    ⟨some 11, (.mv (.t 10)), some (6, false)⟩,
    ⟨some 12, (.mv (.t 0)), some (11, true)⟩,
    ⟨some 13, (.call 207 [(.t 12)] .float []), some (11, true)⟩,
    ⟨some 14, (.binf .leq (.t 13) (.c (.float 4845873199050653695))), some (11, true)⟩,
    ⟨some 15, (.pick (.t 11) (.t 14) (.c (.bool false))), some (6, false)⟩,
    ⟨some 16, (.mv (.t 15)), some (6, false)⟩,
    ⟨some 17, (.mv (.t 0)), some (16, true)⟩,
    ⟨some 18, (.binf .neq (.t 17) (.c (.float 0))), some (16, true)⟩,
    ⟨some 19, (.mv (.t 18)), some (16, true)⟩,
    ⟨some 20, (.mv (.t 0)), some (19, false)⟩,
    ⟨some 21, (.call 212 [(.t 20)] .bool []), some (19, false)⟩,
    ⟨some 22, (.not (.t 21)), some (19, false)⟩,
    ⟨some 23, (.pick (.t 19) (.c (.bool true)) (.t 22)), some (16, true)⟩,
    ⟨some 24, (.pick (.t 16) (.t 23) (.c (.bool false))), some (6, false)⟩,
    ⟨some 25, (.pick (.t 6) (.c (.bool true)) (.t 24)), none⟩] [25] [] t0)
    .ret))
def num_May.body : DC := num_May.bodyX num_May.t0
def num_May : FD := ⟨1, [.tmp 2], num_May.body⟩
/-- 175 bailiff/table.Check -/
def table_Check.bX0 (t0 : DC) : DC :=
  (.seq
   (.ops [
     ⟨some 16, (.bini .lss (.t 15) (.t 14)), none⟩])
   (.seq
    (.cond (.t 16)
     .skip
     (.exit 0))
    (.seq
     (.block 1
      (.seq
       (.ops [
         ⟨some 17, (.mv (.t 15)), none⟩,
         ⟨some 18, (.iaddr false 0 18 (.t 13) (.t 15)), none⟩,
         ⟨some 19, (.load (some 18) (.t 18)), none⟩,
         ⟨some 5, (.alloc 5 [(.str (bs [])), (.int .i64 0), (.int .u8 0), (.int .u8 0), (.float 0), (.str (bs [])), (.int .i64 0), (.int .u8 0), (.float 0), (.str (bs [])), (.int .i64 0), (.int .u8 0), (.float 0), (.str (bs [])), (.int .i64 0), (.bool false), (.bool false), (.bool false)] none), none⟩,
         ⟨some 4, (.mv (.t 17)), none⟩,
         ⟨none, (.store 18 (.t 5) (.t 19)), none⟩])
       (.seq
        (.seq
         (.ops [
           ⟨some 20, (.faddr 0 (.t 5)), none⟩,
           ⟨some 21, (.load (some 2) (.t 20)), none⟩,
           ⟨some 22, (.call 158 [(.t 21)] (.int .i64) []), none⟩,
           ⟨some 6, (.mv (.t 22)), none⟩])
         (.seq
          (.ops [
            ⟨some 23, (.mv (.t 6)), none⟩,
            ⟨some 24, (.bini .neq (.t 23) (.c (.int .i64 0))), none⟩])
          (.cond (.t 24)
           (.seq
            (.ops [
              ⟨some 25, (.mv (.t 6)), none⟩,
              ⟨some 2, (.mv (.t 25)), none⟩])
            .ret)
           .skip)))
        (.seq
         (.seq
          (.ops [
            ⟨some 26, (.faddr 2 (.t 5)), none⟩,
            ⟨some 27, (.load (some 16) (.t 26)), none⟩,
            ⟨some 28, (.call 179 [(.t 27)] .bool []), none⟩,
            ⟨some 29, (.not (.t 28)), none⟩])
          (.cond (.t 29)
           (.seq
            (.ops [
              ⟨some 2, (.mv (.c (.int .i64 90))), none⟩])
            .ret)
           .skip))
         (.seq
          (.seq
           (.ops [
             ⟨some 30, (.mv (.t 3)), none⟩,
             ⟨some 31, (.faddr 0 (.t 5)), none⟩,
             ⟨some 32, (.load (some 2) (.t 31)), none⟩,
             ⟨some 33, (.mget false (.int .i64 0) true [2, 0] (.t 30) (.t 32)), none⟩,
             ⟨some 34, (.bini .gtr (.t 33) (.c (.int .i64 0))), none⟩])
           (.cond (.t 34)
            (.seq
             (.ops [
               ⟨some 2, (.mv (.c (.int .i64 100))), none⟩])
             .ret)
            .skip))
          (.ops [
            ⟨some 35, (.mv (.t 3)), none⟩,
            ⟨some 36, (.faddr 0 (.t 5)), none⟩,
            ⟨some 37, (.load (some 2) (.t 36)), none⟩,
            ⟨some 38, (.mv (.t 4)), none⟩,
            ⟨some 39, (.bini .add (.t 38) (.c (.int .i64 1))), none⟩,
            ⟨none, (.mput true [2, 0] (.t 35) (.t 37) (.t 39)), none⟩]))))))
     (.ops [
       ⟨some 40, (.bini .add (.t 15) (.c (.int .i64 1))), none⟩,
       ⟨some 15, (.mv (.t 40)), none⟩]))))
def table_Check.tX0 (t0 : DC) : DC :=
      (.seq
       (.ops [
         ⟨some 2, (.mv (.c (.int .i64 0))), none⟩])
       .ret)
def table_Check.t0 : DC := table_Check.tX0 .skip
def table_Check.sX0 (t : DC) : DC := .kp [] [] t
def table_Check.bodyX (t0 : DC) : DC :=
  (.seq
   (.ops [
     ⟨some 2, (.mv (.c (.int .i64 0))), none⟩])
   (.seq
    (.seq
     (.ops [
       ⟨some 7, (.mv (.t 0)), none⟩,
       ⟨some 8, (.len false (.t 7)), none⟩,
       ⟨some 9, (.bini .gtr (.t 8) (.c (.int .i64 1024))), none⟩])
     (.cond (.t 9)
      (.seq
       (.ops [
         ⟨some 2, (.mv (.c (.int .i64 4))), none⟩])
       .ret)
      .skip))
    (.seq
     (.ops [
       ⟨some 10, (.mv (.t 0)), none⟩,
       ⟨some 11, (.len false (.t 10)), none⟩,
       ⟨some 12, (.mkmap 1003 true (some (.t 11))), none⟩,
       ⟨some 3, (.mv (.t 12)), none⟩])
     (.seq
      (.seq
       (.ops [
         ⟨some 13, (.mv (.t 0)), none⟩,
         ⟨some 14, (.len false (.t 13)), none⟩,
         ⟨some 15, (.mv (.c (.int .i64 0))), none⟩])
       (.block 0
        (.loop [3, 13, 14, 15] [1003] (table_Check.bX0 t0))))
      (table_Check.sX0 t0)))))
def table_Check.body : DC := table_Check.bodyX table_Check.t0
def table_Check : FD := ⟨1, [.tmp 2], table_Check.body⟩
/-- 179 bailiff/table.whole -/
def table_whole.tX0 (t0 : DC) : DC :=
  (.ops [
    ⟨some 2, (.mv (.t 18)), none⟩])
def table_whole.t0 : DC := table_whole.tX0 .skip
def table_whole.bodyX (t0 : DC) : DC :=
  (.seq
   (.ops [
     ⟨some 1, (.box 1 (.t 0)), none⟩,
     ⟨some 2, (.mv (.c (.bool false))), none⟩])
   (.seq
    (.ops [
      ⟨some 6, (.load (some 16) (.t 1)), none⟩,
      ⟨some 7, (.call 127 [(.t 6)] (.p2 .dsc (.int .i64)) []), none⟩,
      ⟨some 5, (.mv (.t 7)), none⟩,
      ⟨some 8, (.ext (.t 5) 0), none⟩,
      ⟨some 9, (.ext (.t 5) 1), none⟩,
      ⟨some 3, (.alloc 3 [(.int .u8 0), (.int .u8 0), (.float 0), (.str (bs [])), (.int .i64 0), (.int .u8 0), (.float 0), (.str (bs [])), (.int .i64 0), (.int .u8 0), (.float 0), (.str (bs [])), (.int .i64 0), (.bool false), (.bool false), (.bool false)] none), none⟩,
      ⟨none, (.store 16 (.t 3) (.t 8)), none⟩,
      ⟨some 4, (.mv (.t 9)), none⟩])
    (.seq
  (.opsc [
    ⟨some 10, (.mv (.t 4)), none⟩,
    ⟨some 11, (.bini .eql (.t 10) (.c (.int .i64 0))), none⟩,
    ⟨some 12, (.mv (.t 11)), none⟩,
    ⟨some 13, (.faddr 0 (.t 3)), some (12, true)⟩,
    ⟨some 14, (.load none (.t 13)), some (12, true)⟩,
    ⟨some 15, (.faddr 0 (.t 1)), some (12, true)⟩,
    ⟨some 16, (.load none (.t 15)), some (12, true)⟩,
    ⟨some 17, (.bini .eql (.t 14) (.t 16)), some (12, true)⟩,
    ⟨some 18, (.pick (.t 12) (.t 17) (.c (.bool false))), none⟩] [18] [] t0)
     .ret)))
def table_whole.body : DC := table_whole.bodyX table_whole.t0
def table_whole : FD := ⟨1, [.tmp 2], table_whole.body⟩
/-- 180 bailiff/value.Calls -/
def value_Calls.tX0 (t0 : DC) : DC :=
  (.ops [
    ⟨some 2, (.mv (.t 10)), none⟩])
def value_Calls.t0 : DC := value_Calls.tX0 .skip
def value_Calls.bodyX (t0 : DC) : DC :=
  (.seq
   (.ops [
     ⟨some 1, (.box 1 (.t 0)), none⟩,
     ⟨some 2, (.mv (.c (.bool false))), none⟩])
   (.seq
  (.opsc [
    ⟨some 3, (.faddr 0 (.t 1)), none⟩,
    ⟨some 4, (.load none (.t 3)), none⟩,
    ⟨some 5, (.bini .eql (.t 4) (.c (.int .u8 7))), none⟩,
    ⟨some 6, (.mv (.t 5)), none⟩,
    ⟨some 7, (.faddr 0 (.t 1)), some (6, false)⟩,
    ⟨some 8, (.load none (.t 7)), some (6, false)⟩,
    ⟨some 9, (.bini .eql (.t 8) (.c (.int .u8 8))), some (6, false)⟩,
    ⟨some 10, (.pick (.t 6) (.c (.bool true)) (.t 9)), none⟩] [10] [] t0)
    .ret))
def value_Calls.body : DC := value_Calls.bodyX value_Calls.t0
def value_Calls : FD := ⟨1, [.tmp 2], value_Calls.body⟩
/-- 181 bailiff/value.IsObject -/
def value_IsObject.tX0 (t0 : DC) : DC :=
  (.ops [
    ⟨some 2, (.mv (.t 10)), none⟩])
def value_IsObject.t0 : DC := value_IsObject.tX0 .skip
def value_IsObject.bodyX (t0 : DC) : DC :=
  (.seq
   (.ops [
     ⟨some 1, (.box 1 (.t 0)), none⟩,
     ⟨some 2, (.mv (.c (.bool false))), none⟩])
   (.seq
  (.opsc [
    ⟨some 3, (.faddr 0 (.t 1)), none⟩,
    ⟨some 4, (.load none (.t 3)), none⟩,
    ⟨some 5, (.bini .geq (.t 4) (.c (.int .u8 6))), none⟩,
    ⟨some 6, (.mv (.t 5)), none⟩,
    ⟨some 7, (.faddr 0 (.t 1)), some (6, true)⟩,
    ⟨some 8, (.load none (.t 7)), some (6, true)⟩,
    ⟨some 9, (.bini .leq (.t 8) (.c (.int .u8 8))), some (6, true)⟩,
    ⟨some 10, (.pick (.t 6) (.t 9) (.c (.bool false))), none⟩] [10] [] t0)
    .ret))
def value_IsObject.body : DC := value_IsObject.bodyX value_IsObject.t0
def value_IsObject : FD := ⟨1, [.tmp 2], value_IsObject.body⟩
/-- 182 bailiff/value.May -/
def value_May.tX0 (t0 t1 t2 t3 t4 t5 : DC) : DC :=
  (.ops [
    ⟨some 12, (.mv (.t 11)), none⟩,
    ⟨some 13, (.faddr 2 (.t 1)), some (12, false)⟩,
    ⟨some 14, (.load none (.t 13)), some (12, false)⟩,
    ⟨some 15, (.len true (.t 14)), some (12, false)⟩,
    ⟨some 16, (.bini .gtr (.t 15) (.c (.int .i64 4096))), some (12, false)⟩,
    ⟨some 17, (.pick (.t 12) (.c (.bool true)) (.t 16)), none⟩])
def value_May.t0 : DC := value_May.tX0 .skip .skip .skip .skip .skip .skip
def value_May.tX1 (t0 t1 t2 t3 t4 t5 : DC) : DC :=
     (.cond (.t 17)
      (.seq
       (.ops [
         ⟨some 2, (.mv (.c (.bool false))), none⟩])
       .ret)
      .skip)
def value_May.t1 : DC := value_May.tX1 value_May.t0 .skip .skip .skip .skip .skip
def value_May.sX1 (t : DC) : DC := .kp [1, 17] [1] t
def value_May.tX2 (t0 t1 t2 t3 t4 t5 : DC) : DC :=
            (.cond (.t 37)
             (.seq
              (.ops [
                ⟨some 2, (.mv (.c (.bool false))), none⟩])
              .ret)
             .skip)
def value_May.t2 : DC := value_May.tX2 value_May.t0 value_May.t1 .skip .skip .skip .skip
def value_May.sX2 (t : DC) : DC := .kp [1, 3, 37] [1, 3] t
def value_May.tX3 (t0 t1 t2 t3 t4 t5 : DC) : DC :=
               (.cond (.t 48)
                (.ops [
                  ⟨some 53, (.faddr 3 (.t 3)), none⟩,
                  ⟨none, (.store 1 (.t 53) (.c (.int .i64 0))), none⟩])
                .skip)
def value_May.t3 : DC := value_May.tX3 value_May.t0 value_May.t1 value_May.t2 .skip .skip .skip
def value_May.sX3 (t : DC) : DC := .kp [1, 3, 48] [1, 3] t
def value_May.tX4 (t0 t1 t2 t3 t4 t5 : DC) : DC :=
  (.ops [
    ⟨some 2, (.mv (.t 63)), none⟩])
def value_May.t4 : DC := value_May.tX4 value_May.t0 value_May.t1 value_May.t2 value_May.t3 .skip .skip
def value_May.tX5 (t0 t1 t2 t3 t4 t5 : DC) : DC :=
      (.seq
  (.opsc [
    ⟨some 54, (.load (some 4) (.t 3)), none⟩,
    ⟨some 55, (.faddr 0 (.t 1)), none⟩,
    ⟨some 56, (.load none (.t 55)), none⟩,
    ⟨some 57, (.build [(.int .u8 0), (.float 0), (.str (bs [])), (.int .i64 0)] [((0, 1), (.t 56))]), none⟩,
    ⟨some 58, (.eqa false [0, 3, 2, 0] (.t 54) (.t 57)), none⟩,
    ⟨some 59, (.mv (.t 58)), none⟩,
    ⟨some 60, (.faddr 1 (.t 3)), some (59, true)⟩,
    ⟨some 61, (.load none (.t 60)), some (59, true)⟩,
    ⟨some 62, (.call 161 [(.t 61)] .bool []), some (59, true)⟩,
    ⟨some 63, (.pick (.t 59) (.t 62) (.c (.bool false))), none⟩] [63] [] t4)
       .ret)
def value_May.t5 : DC := value_May.tX5 value_May.t0 value_May.t1 value_May.t2 value_May.t3 value_May.t4 .skip
def value_May.sX5 (t : DC) : DC := .kp [1, 3] [1, 3] t
def value_May.bodyX (t0 t1 t2 t3 t4 t5 : DC) : DC :=
  (.seq
   (.ops [
     ⟨some 1, (.box 1 (.t 0)), none⟩,
     ⟨some 2, (.mv (.c (.bool false))), none⟩])
   (.seq
    (.seq
  (.opsc [
    ⟨some 4, (.faddr 0 (.t 1)), none⟩,
    ⟨some 5, (.load none (.t 4)), none⟩,
    ⟨some 6, (.bini .gtr (.t 5) (.c (.int .u8 8))), none⟩,
    ⟨some 7, (.mv (.t 6)), none⟩,
    ⟨some 8, (.faddr 3 (.t 1)), some (7, false)⟩,
    ⟨some 9, (.load none (.t 8)), some (7, false)⟩,
    ⟨some 10, (.bini .lss (.t 9) (.c (.int .i64 0))), some (7, false)⟩,
    ⟨some 11, (.pick (.t 7) (.c (.bool true)) (.t 10)), none⟩] [1, 11] [1] t0)
     (value_May.sX1 t1))
    (.seq
     (.ops [
       ⟨some 18, (.load (some 4) (.t 1)), none⟩,
       ⟨some 3, (.alloc 3 [(.int .u8 0), (.float 0), (.str (bs [])), (.int .i64 0)] none), none⟩,
       ⟨none, (.store 4 (.t 3) (.t 18)), none⟩])
     (.seq
      (.seq
       (.ops [
         ⟨some 19, (.faddr 0 (.t 1)), none⟩,
         ⟨some 20, (.load none (.t 19)), none⟩])
       (.block 0
        (.seq
         (.ops [
           ⟨some 22, (.bini .eql (.t 20) (.c (.int .u8 2))), none⟩,
           ⟨some 21, (.mv (.t 22)), none⟩])
         (.cond (.t 21)
          (.seq
           (.ops [
             ⟨some 23, (.faddr 1 (.t 3)), none⟩,
             ⟨none, (.store 1 (.t 23) (.c (.float 0))), none⟩])
           (.seq
            (.ops [
              ⟨some 24, (.faddr 1 (.t 1)), none⟩,
              ⟨some 25, (.load none (.t 24)), none⟩,
              ⟨some 26, (.binf .neq (.t 25) (.c (.float 4607182418800017408))), none⟩,
              ⟨some 27, (.mv (.t 26)), none⟩,
              ⟨some 28, (.faddr 1 (.t 1)), some (27, true)⟩,
              ⟨some 29, (.load none (.t 28)), some (27, true)⟩,
              ⟨some 30, (.binf .neq (.t 29) (.c (.float 0))), some (27, true)⟩,
              ⟨some 31, (.mv (.t 30)), some (27, true)⟩,
              ⟨some 32, (.faddr 1 (.t 1)), some (31, false)⟩,
              ⟨some 33, (.load none (.t 32)), some (31, false)⟩,
              ⟨some 34, (.call 161 [(.t 33)] .bool []), some (31, false)⟩,
              ⟨some 35, (.not (.t 34)), some (31, false)⟩,
              ⟨some 36, (.pick (.t 31) (.c (.bool true)) (.t 35)), some (27, true)⟩,
              ⟨some 37, (.pick (.t 27) (.t 36) (.c (.bool false))), none⟩])
            (value_May.sX2 t2)))
          (.seq
           (.ops [
             ⟨some 39, (.bini .eql (.t 20) (.c (.int .u8 3))), none⟩,
             ⟨some 38, (.mv (.t 39)), none⟩])
           (.cond (.t 38)
            (.seq
             (.ops [
               ⟨some 40, (.faddr 1 (.t 3)), none⟩,
               ⟨none, (.store 1 (.t 40) (.c (.float 0))), none⟩])
             (.seq
              (.ops [
                ⟨some 41, (.faddr 1 (.t 1)), none⟩,
                ⟨some 42, (.load none (.t 41)), none⟩,
                ⟨some 43, (.call 161 [(.t 42)] .bool []), none⟩,
                ⟨some 44, (.not (.t 43)), none⟩])
              (.cond (.t 44)
               (.seq
                (.ops [
                  ⟨some 2, (.mv (.c (.bool false))), none⟩])
                .ret)
               .skip)))
            (.seq
             (.ops [
               ⟨some 46, (.bini .eql (.t 20) (.c (.int .u8 4))), none⟩,
               ⟨some 45, (.mv (.t 46)), none⟩])
             (.cond (.t 45)
              (.ops [
                ⟨some 47, (.faddr 2 (.t 3)), none⟩,
                ⟨none, (.store 1 (.t 47) (.c (.str (bs [])))), none⟩])
              (.seq
               (.seq
                (.ops [
                  ⟨some 49, (.bini .eql (.t 20) (.c (.int .u8 5))), none⟩,
                  ⟨some 48, (.mv (.t 49)), none⟩])
                (.cond (.t 48)
                 .skip
                 (.seq
                  (.ops [
                    ⟨some 50, (.bini .eql (.t 20) (.c (.int .u8 6))), none⟩,
                    ⟨some 48, (.mv (.t 50)), none⟩])
                  (.cond (.t 48)
                   .skip
                   (.seq
                    (.ops [
                      ⟨some 51, (.bini .eql (.t 20) (.c (.int .u8 7))), none⟩,
                      ⟨some 48, (.mv (.t 51)), none⟩])
                    (.cond (.t 48)
                     .skip
                     (.ops [
                       ⟨some 52, (.bini .eql (.t 20) (.c (.int .u8 8))), none⟩,
                       ⟨some 48, (.mv (.t 52)), none⟩])))))))
               (value_May.sX3 t3))))))))))
      (value_May.sX5 t5)))))
def value_May.body : DC := value_May.bodyX value_May.t0 value_May.t1 value_May.t2 value_May.t3 value_May.t4 value_May.t5
def value_May : FD := ⟨1, [.tmp 2], value_May.body⟩
/-- 207 math.Abs -/
def math_Abs.bodyX : DC :=
  (.seq
   (.ops [
     ⟨some 2, (.mv (.c (.float 0))), none⟩])
   (.seq
    (.ops [
      ⟨some 3, (.mv (.t 0)), none⟩,
      ⟨some 4, (.call 209 [(.t 3)] (.int .u64) []), none⟩,
      ⟨some 5, (.bini .andNot (.t 4) (.c (.int .u64 9223372036854775808))), none⟩,
      ⟨some 6, (.call 210 [(.t 5)] .float []), none⟩,
      ⟨some 2, (.mv (.t 6)), none⟩])
    .ret))
def math_Abs.body : DC := math_Abs.bodyX
def math_Abs : FD := ⟨1, [.tmp 2], math_Abs.body⟩
/-- 208 math.Copysign -/
def math_Copysign.bodyX : DC :=
  (.seq
   (.ops [
     ⟨some 4, (.mv (.c (.float 0))), none⟩])
   (.seq
    (.ops [
      ⟨some 5, (.mv (.t 0)), none⟩,
      ⟨some 6, (.call 209 [(.t 5)] (.int .u64) []), none⟩,
      ⟨some 7, (.bini .andNot (.t 6) (.c (.int .u64 9223372036854775808))), none⟩,
      ⟨some 8, (.mv (.t 1)), none⟩,
      ⟨some 9, (.call 209 [(.t 8)] (.int .u64) []), none⟩,
      ⟨some 10, (.bini .and (.t 9) (.c (.int .u64 9223372036854775808))), none⟩,
      ⟨some 11, (.bini .or (.t 7) (.t 10)), none⟩,
      ⟨some 12, (.call 210 [(.t 11)] .float []), none⟩,
      ⟨some 4, (.mv (.t 12)), none⟩])
    .ret))
def math_Copysign.body : DC := math_Copysign.bodyX
def math_Copysign : FD := ⟨2, [.tmp 4], math_Copysign.body⟩
/-- 212 math.Signbit -/
def math_Signbit.bodyX : DC :=
  (.seq
   (.ops [
     ⟨some 2, (.mv (.c (.bool false))), none⟩])
   (.seq
    (.ops [
      ⟨some 3, (.mv (.t 0)), none⟩,
      ⟨some 4, (.call 209 [(.t 3)] (.int .u64) []), none⟩,
      ⟨some 5, (.conv .i64 (.t 4)), none⟩,
      ⟨some 6, (.bini .lss (.t 5) (.c (.int .i64 0))), none⟩,
      ⟨some 2, (.mv (.t 6)), none⟩])
    .ret))
def math_Signbit.body : DC := math_Signbit.bodyX
def math_Signbit : FD := ⟨1, [.tmp 2], math_Signbit.body⟩
/-- 213 math.Trunc -/
def math_Trunc.bodyX : DC :=
  (.seq
   (.ops [
     ⟨some 2, (.mv (.c (.float 0))), none⟩])
   (.seq
    (.cond (.c (.bool true))
     (.seq
      (.ops [
        ⟨some 3, (.mv (.t 0)), none⟩,
        ⟨some 4, (.call 214 [(.t 3)] .float []), none⟩,
        ⟨some 2, (.mv (.t 4)), none⟩])
      .ret)
     .skip)
    (.seq
     (.ops [
       ⟨some 5, (.mv (.t 0)), none⟩,
       ⟨some 6, (.call 215 [(.t 5)] .float []), none⟩,
       ⟨some 2, (.mv (.t 6)), none⟩])
     .ret)))
def math_Trunc.body : DC := math_Trunc.bodyX
def math_Trunc : FD := ⟨1, [.tmp 2], math_Trunc.body⟩
/-- 215 math.trunc -/
def math_trunc.tX0 (t0 : DC) : DC :=
       (.seq
        (.ops [
          ⟨some 24, (.mv (.t 3)), none⟩,
          ⟨some 25, (.call 210 [(.t 24)] .float []), none⟩,
          ⟨some 2, (.mv (.t 25)), none⟩])
        .ret)
def math_trunc.t0 : DC := math_trunc.tX0 .skip
def math_trunc.sX0 (t : DC) : DC := .kp [3] [] t
def math_trunc.bodyX (t0 : DC) : DC :=
  (.seq
   (.ops [
     ⟨some 2, (.mv (.c (.float 0))), none⟩])
   (.seq
    (.seq
     (.ops [
       ⟨some 5, (.mv (.t 0)), none⟩,
       ⟨some 6, (.call 207 [(.t 5)] .float []), none⟩,
       ⟨some 7, (.binf .lss (.t 6) (.c (.float 4607182418800017408))), none⟩])
     (.cond (.t 7)
      (.seq
       (.ops [
         ⟨some 8, (.mv (.t 0)), none⟩,
         ⟨some 9, (.call 208 [(.c (.float 0)), (.t 8)] .float []), none⟩,
         ⟨some 2, (.mv (.t 9)), none⟩])
       .ret)
      .skip))
    (.seq
     (.ops [
       ⟨some 10, (.mv (.t 0)), none⟩,
       ⟨some 11, (.call 209 [(.t 10)] (.int .u64) []), none⟩,
       ⟨some 3, (.mv (.t 11)), none⟩])
     (.seq
      (.ops [
        ⟨some 12, (.mv (.t 3)), none⟩,
        ⟨some 13, (.bini .shr (.t 12) (.c (.int .u64 52))), none⟩,
        ⟨some 14, (.bini .and (.t 13) (.c (.int .u64 2047))), none⟩,
        ⟨some 15, (.bini .sub (.t 14) (.c (.int .u64 1023))), none⟩,
        ⟨some 4, (.mv (.t 15)), none⟩])
      (.seq
       (.seq
        (.ops [
          ⟨some 16, (.mv (.t 4)), none⟩,
          ⟨some 17, (.bini .lss (.t 16) (.c (.int .u64 52))), none⟩])
        (.cond (.t 17)
         (.ops [
           ⟨some 18, (.mv (.t 3)), none⟩,
           ⟨some 19, (.mv (.t 4)), none⟩,
           ⟨some 20, (.bini .sub (.c (.int .u64 52)) (.t 19)), none⟩,
           ⟨some 21, (.bini .shl (.c (.int .u64 1)) (.t 20)), none⟩,
           ⟨some 22, (.bini .sub (.t 21) (.c (.int .u64 1))), none⟩,
           ⟨some 23, (.bini .andNot (.t 18) (.t 22)), none⟩,
           ⟨some 3, (.mv (.t 23)), none⟩])
         .skip))
       (math_trunc.sX0 t0))))))
def math_trunc.body : DC := math_trunc.bodyX math_trunc.t0
def math_trunc : FD := ⟨1, [.tmp 2], math_trunc.body⟩
/-- 217 slices.ContainsFunc[[]bailiff/api.Prop,bailiff/api.Prop] -/
def slices_ContainsFunc_Sapi_Prop_api_Prop.bodyX : DC :=
  (.seq
   (.ops [
     ⟨some 4, (.mv (.c (.bool false))), none⟩])
   (.seq
    (.ops [
      ⟨some 5, (.mv (.t 0)), none⟩,
      ⟨some 6, (.mv (.t 1)), none⟩,
      ⟨some 7, (.call 220 [(.t 5), (.t 6)] (.int .i64) []), none⟩,
      ⟨some 8, (.bini .geq (.t 7) (.c (.int .i64 0))), none⟩,
      ⟨some 4, (.mv (.t 8)), none⟩])
    .ret))
def slices_ContainsFunc_Sapi_Prop_api_Prop.body : DC := slices_ContainsFunc_Sapi_Prop_api_Prop.bodyX
def slices_ContainsFunc_Sapi_Prop_api_Prop : FD := ⟨2, [.tmp 4], slices_ContainsFunc_Sapi_Prop_api_Prop.body⟩
/-- 220 slices.IndexFunc[[]bailiff/api.Prop,bailiff/api.Prop] -/
def slices_IndexFunc_Sapi_Prop_api_Prop.bX0 (t0 : DC) : DC :=
  (.seq
   (.ops [
     ⟨some 9, (.bini .lss (.t 8) (.t 7)), none⟩])
   (.seq
    (.cond (.t 9)
     .skip
     (.exit 0))
    (.seq
     (.block 1
      (.seq
       (.ops [
         ⟨some 10, (.mv (.t 8)), none⟩,
         ⟨some 5, (.mv (.t 10)), none⟩])
       (.seq
        (.ops [
          ⟨some 11, (.mv (.t 1)), none⟩,
          ⟨some 12, (.mv (.t 0)), none⟩,
          ⟨some 13, (.mv (.t 5)), none⟩,
          ⟨some 14, (.iaddr false 0 18 (.t 12) (.t 13)), none⟩,
          ⟨some 15, (.load (some 18) (.t 14)), none⟩,
          ⟨some 16, (.callv (.t 11) [(.t 15)] .bool), none⟩])
        (.cond (.t 16)
         (.seq
          (.ops [
            ⟨some 17, (.mv (.t 5)), none⟩,
            ⟨some 4, (.mv (.t 17)), none⟩])
          .ret)
         .skip))))
     (.ops [
       ⟨some 18, (.bini .add (.t 8) (.c (.int .i64 1))), none⟩,
       ⟨some 8, (.mv (.t 18)), none⟩]))))
def slices_IndexFunc_Sapi_Prop_api_Prop.tX0 (t0 : DC) : DC :=
    (.seq
     (.ops [
       ⟨some 4, (.mv (.c (.int .i64 (-1)))), none⟩])
     .ret)
def slices_IndexFunc_Sapi_Prop_api_Prop.t0 : DC := slices_IndexFunc_Sapi_Prop_api_Prop.tX0 .skip
def slices_IndexFunc_Sapi_Prop_api_Prop.sX0 (t : DC) : DC := .kp [] [] t
def slices_IndexFunc_Sapi_Prop_api_Prop.bodyX (t0 : DC) : DC :=
  (.seq
   (.ops [
     ⟨some 4, (.mv (.c (.int .i64 0))), none⟩])
   (.seq
    (.seq
     (.ops [
       ⟨some 6, (.mv (.t 0)), none⟩,
       ⟨some 7, (.len false (.t 6)), none⟩,
       ⟨some 8, (.mv (.c (.int .i64 0))), none⟩])
     (.block 0
      (.loop [0, 1, 7, 8] [] (slices_IndexFunc_Sapi_Prop_api_Prop.bX0 t0))))
    (slices_IndexFunc_Sapi_Prop_api_Prop.sX0 t0)))
def slices_IndexFunc_Sapi_Prop_api_Prop.body : DC := slices_IndexFunc_Sapi_Prop_api_Prop.bodyX slices_IndexFunc_Sapi_Prop_api_Prop.t0
def slices_IndexFunc_Sapi_Prop_api_Prop : FD := ⟨2, [.tmp 4], slices_IndexFunc_Sapi_Prop_api_Prop.body⟩
end C
end Bz
