/- The resolved code of the functions, printed by gen.py. -/
import Derived.Test.YtjlgkjmbndmkjaaDev2c
set_option linter.all false
set_option maxRecDepth 100000
namespace Bz
open Go
def bs (l : List UInt8) : ByteArray := ⟨l.toArray⟩
namespace C
/-- 0 bailiff/bailifflaw09.DescStays -/
def bailifflaw09_DescStays.tX0 (t0 t1 t2 t3 t4 t5 t6 t7 t8 t9 t10 : DC) : DC :=
  (.ops [
    ⟨some 24, (.mv (.t 23)), none⟩,
    ⟨some 25, (.mv (.t 9)), some (24, false)⟩,
    ⟨some 26, (.not (.t 25)), some (24, false)⟩,
    ⟨some 27, (.pick (.t 24) (.c (.bool true)) (.t 26)), none⟩])
def bailifflaw09_DescStays.t0 : DC := bailifflaw09_DescStays.tX0 .skip .skip .skip .skip .skip .skip .skip .skip .skip .skip .skip
def bailifflaw09_DescStays.tX1 (t0 t1 t2 t3 t4 t5 t6 t7 t8 t9 t10 : DC) : DC :=
      (.cond (.t 27)
       (.seq
        (.ops [
          ⟨some 28, (.mv (.t 9)), none⟩,
          ⟨some 8, (.mv (.t 28)), none⟩])
        .ret)
       .skip)
def bailifflaw09_DescStays.t1 : DC := bailifflaw09_DescStays.tX1 bailifflaw09_DescStays.t0 .skip .skip .skip .skip .skip .skip .skip .skip .skip .skip
def bailifflaw09_DescStays.sX1 (t : DC) : DC := .kp [0, 2, 5, 7, 9, 27] [5, 7] t
def bailifflaw09_DescStays.tX2 (t0 t1 t2 t3 t4 t5 t6 t7 t8 t9 t10 : DC) : DC :=
  (.ops [
    ⟨some 54, (.mv (.t 53)), none⟩,
    ⟨some 55, (.mv (.t 11)), some (54, false)⟩,
    ⟨some 56, (.not (.t 55)), some (54, false)⟩,
    ⟨some 57, (.mv (.t 56)), some (54, false)⟩,
    ⟨some 58, (.load (some 16) (.t 10)), some (57, true)⟩,
    ⟨some 59, (.build [(.int .u8 0), (.int .u8 0), (.float 0), (.str (bs [])), (.int .i64 0), (.int .u8 0), (.float 0), (.str (bs [])), (.int .i64 0), (.int .u8 0), (.float 0), (.str (bs [])), (.int .i64 0), (.bool false), (.bool false), (.bool false)] []), some (57, true)⟩,
    ⟨some 60, (.eqa true [0, 0, 3, 2, 0, 0, 3, 2, 0, 0, 3, 2, 0, 1, 1, 1] (.t 58) (.t 59)), some (57, true)⟩,
    ⟨some 61, (.pick (.t 57) (.t 60) (.c (.bool false))), some (54, false)⟩,
    ⟨some 62, (.pick (.t 54) (.c (.bool true)) (.t 61)), none⟩])
def bailifflaw09_DescStays.t2 : DC := bailifflaw09_DescStays.tX2 bailifflaw09_DescStays.t0 bailifflaw09_DescStays.t1 .skip .skip .skip .skip .skip .skip .skip .skip .skip
def bailifflaw09_DescStays.tX3 (t0 t1 t2 t3 t4 t5 t6 t7 t8 t9 t10 : DC) : DC :=
         (.cond (.t 62)
          (.seq
           (.ops [
             ⟨some 8, (.mv (.c (.bool false))), none⟩])
           .ret)
          .skip)
def bailifflaw09_DescStays.t3 : DC := bailifflaw09_DescStays.tX3 bailifflaw09_DescStays.t0 bailifflaw09_DescStays.t1 bailifflaw09_DescStays.t2 .skip .skip .skip .skip .skip .skip .skip .skip
def bailifflaw09_DescStays.sX3 (t : DC) : DC := .kp [0, 2, 5, 7, 10, 11, 12, 62] [5, 7, 10] t
def bailifflaw09_DescStays.tX4 (t0 t1 t2 t3 t4 t5 t6 t7 t8 t9 t10 : DC) : DC :=
          (.cond (.t 68)
           (.seq
            (.ops [
              ⟨some 8, (.mv (.c (.bool true))), none⟩])
            .ret)
           .skip)
def bailifflaw09_DescStays.t4 : DC := bailifflaw09_DescStays.tX4 bailifflaw09_DescStays.t0 bailifflaw09_DescStays.t1 bailifflaw09_DescStays.t2 bailifflaw09_DescStays.t3 .skip .skip .skip .skip .skip .skip .skip
def bailifflaw09_DescStays.sX4 (t : DC) : DC := .kp [0, 2, 5, 7, 10, 68] [5, 7, 10] t
def bailifflaw09_DescStays.tX5 (t0 t1 t2 t3 t4 t5 t6 t7 t8 t9 t10 : DC) : DC :=
  (.ops [
    ⟨some 115, (.mv (.t 114)), none⟩,
    ⟨some 116, (.load (some 16) (.t 10)), some (115, false)⟩,
    ⟨some 117, (.load (some 16) (.t 16)), some (115, false)⟩,
    ⟨some 118, (.call 131 [(.t 116), (.t 117)] .bool []), some (115, false)⟩,
    ⟨some 119, (.not (.t 118)), some (115, false)⟩,
    ⟨some 120, (.pick (.t 115) (.c (.bool true)) (.t 119)), none⟩])
def bailifflaw09_DescStays.t5 : DC := bailifflaw09_DescStays.tX5 bailifflaw09_DescStays.t0 bailifflaw09_DescStays.t1 bailifflaw09_DescStays.t2 bailifflaw09_DescStays.t3 bailifflaw09_DescStays.t4 .skip .skip .skip .skip .skip .skip
def bailifflaw09_DescStays.tX6 (t0 t1 t2 t3 t4 t5 t6 t7 t8 t9 t10 : DC) : DC :=
              (.cond (.t 120)
               (.seq
                (.ops [
                  ⟨some 8, (.mv (.c (.bool false))), none⟩])
                .ret)
               .skip)
def bailifflaw09_DescStays.t6 : DC := bailifflaw09_DescStays.tX6 bailifflaw09_DescStays.t0 bailifflaw09_DescStays.t1 bailifflaw09_DescStays.t2 bailifflaw09_DescStays.t3 bailifflaw09_DescStays.t4 bailifflaw09_DescStays.t5 .skip .skip .skip .skip .skip
def bailifflaw09_DescStays.sX6 (t : DC) : DC := .kp [0, 2, 7, 10, 120] [7, 10] t
def bailifflaw09_DescStays.tX7 (t0 t1 t2 t3 t4 t5 t6 t7 t8 t9 t10 : DC) : DC :=
  (.ops [
    ⟨some 135, (.mv (.t 134)), none⟩,
    ⟨some 136, (.faddr 0 (.t 10)), some (135, false)⟩,
    ⟨some 137, (.load none (.t 136)), some (135, false)⟩,
    ⟨some 138, (.faddr 0 (.t 7)), some (135, false)⟩,
    ⟨some 139, (.load none (.t 138)), some (135, false)⟩,
    ⟨some 140, (.bini .neq (.t 137) (.t 139)), some (135, false)⟩,
    ⟨some 141, (.pick (.t 135) (.c (.bool true)) (.t 140)), none⟩])
def bailifflaw09_DescStays.t7 : DC := bailifflaw09_DescStays.tX7 bailifflaw09_DescStays.t0 bailifflaw09_DescStays.t1 bailifflaw09_DescStays.t2 bailifflaw09_DescStays.t3 bailifflaw09_DescStays.t4 bailifflaw09_DescStays.t5 bailifflaw09_DescStays.t6 .skip .skip .skip .skip
def bailifflaw09_DescStays.tX8 (t0 t1 t2 t3 t4 t5 t6 t7 t8 t9 t10 : DC) : DC :=
                 (.cond (.t 141)
                  (.seq
                   (.ops [
                     ⟨some 8, (.mv (.c (.bool false))), none⟩])
                   .ret)
                  .skip)
def bailifflaw09_DescStays.t8 : DC := bailifflaw09_DescStays.tX8 bailifflaw09_DescStays.t0 bailifflaw09_DescStays.t1 bailifflaw09_DescStays.t2 bailifflaw09_DescStays.t3 bailifflaw09_DescStays.t4 bailifflaw09_DescStays.t5 bailifflaw09_DescStays.t6 bailifflaw09_DescStays.t7 .skip .skip .skip
def bailifflaw09_DescStays.sX8 (t : DC) : DC := .kp [7, 10, 141] [7, 10] t
def bailifflaw09_DescStays.tX9 (t0 t1 t2 t3 t4 t5 t6 t7 t8 t9 t10 : DC) : DC :=
  (.ops [
    ⟨some 8, (.mv (.t 155)), none⟩])
def bailifflaw09_DescStays.t9 : DC := bailifflaw09_DescStays.tX9 bailifflaw09_DescStays.t0 bailifflaw09_DescStays.t1 bailifflaw09_DescStays.t2 bailifflaw09_DescStays.t3 bailifflaw09_DescStays.t4 bailifflaw09_DescStays.t5 bailifflaw09_DescStays.t6 bailifflaw09_DescStays.t7 bailifflaw09_DescStays.t8 .skip .skip
def bailifflaw09_DescStays.tX10 (t0 t1 t2 t3 t4 t5 t6 t7 t8 t9 t10 : DC) : DC :=
  (.ops [
    ⟨some 8, (.mv (.t 169)), none⟩])
def bailifflaw09_DescStays.t10 : DC := bailifflaw09_DescStays.tX10 bailifflaw09_DescStays.t0 bailifflaw09_DescStays.t1 bailifflaw09_DescStays.t2 bailifflaw09_DescStays.t3 bailifflaw09_DescStays.t4 bailifflaw09_DescStays.t5 bailifflaw09_DescStays.t6 bailifflaw09_DescStays.t7 bailifflaw09_DescStays.t8 bailifflaw09_DescStays.t9 .skip
def bailifflaw09_DescStays.bodyX (t0 t1 t2 t3 t4 t5 t6 t7 t8 t9 t10 : DC) : DC :=
  (.seq
   (.ops [
     ⟨some 5, (.box 5 (.t 1)), none⟩,
     ⟨some 7, (.box 7 (.t 3)), none⟩,
     ⟨some 8, (.mv (.c (.bool false))), none⟩])
   (.seq
    (.ops [
      ⟨some 17, (.call 2 [] .bool []), none⟩,
      ⟨some 9, (.mv (.t 17)), none⟩])
    (.seq
     (.seq
  (.opsc [
    ⟨some 18, (.load (some 16) (.t 5)), none⟩,
    ⟨some 19, (.call 4 [(.t 18)] .bool []), none⟩,
    ⟨some 20, (.mv (.t 19)), none⟩,
    ⟨some 21, (.load (some 16) (.t 7)), some (20, false)⟩,
    ⟨some 22, (.call 4 [(.t 21)] .bool []), some (20, false)⟩,
    ⟨some 23, (.pick (.t 20) (.c (.bool true)) (.t 22)), none⟩] [0, 2, 5, 7, 9, 23] [5, 7] t0)
      (bailifflaw09_DescStays.sX1 t1))
     (.seq
      (.ops [
        ⟨some 30, (.mv (.t 0)), none⟩,
        ⟨some 31, (.load (some 16) (.t 5)), none⟩,
        ⟨some 32, (.mv (.t 2)), none⟩,
        ⟨some 33, (.load (some 16) (.t 7)), none⟩,
        ⟨some 34, (.call 124 [(.t 30), (.t 31), (.t 32), (.t 33)] (.p3 .dsc .bool (.int .i64)) []), none⟩,
        ⟨some 29, (.mv (.t 34)), none⟩,
        ⟨some 35, (.ext (.t 29) 0), none⟩,
        ⟨some 36, (.ext (.t 29) 1), none⟩,
        ⟨some 37, (.ext (.t 29) 2), none⟩,
        ⟨some 10, (.alloc 10 [(.int .u8 0), (.int .u8 0), (.float 0), (.str (bs [])), (.int .i64 0), (.int .u8 0), (.float 0), (.str (bs [])), (.int .i64 0), (.int .u8 0), (.float 0), (.str (bs [])), (.int .i64 0), (.bool false), (.bool false), (.bool false)] none), none⟩,
        ⟨none, (.store 16 (.t 10) (.t 35)), none⟩,
        ⟨some 11, (.mv (.t 36)), none⟩,
        ⟨some 12, (.mv (.t 37)), none⟩])
      (.seq
       (.ops [
         ⟨some 39, (.mv (.t 0)), none⟩,
         ⟨some 40, (.load (some 16) (.t 5)), none⟩,
         ⟨some 41, (.mv (.t 2)), none⟩,
         ⟨some 42, (.load (some 16) (.t 7)), none⟩,
         ⟨some 43, (.call 126 [(.t 39), (.t 40), (.t 41), (.t 42)] (.p2 .bool (.int .i64)) []), none⟩,
         ⟨some 38, (.mv (.t 43)), none⟩,
         ⟨some 44, (.ext (.t 38) 0), none⟩,
         ⟨some 45, (.ext (.t 38) 1), none⟩,
         ⟨some 13, (.mv (.t 44)), none⟩,
         ⟨some 14, (.mv (.t 45)), none⟩])
       (.seq
        (.seq
  (.opsc [
    ⟨some 46, (.mv (.t 12)), none⟩,
    ⟨some 47, (.mv (.t 14)), none⟩,
    ⟨some 48, (.bini .neq (.t 46) (.t 47)), none⟩,
    ⟨some 49, (.mv (.t 48)), none⟩,
    ⟨some 50, (.mv (.t 11)), some (49, false)⟩,
    ⟨some 51, (.mv (.t 13)), some (49, false)⟩,
    ⟨some 52, (.eqb true (.t 50) (.t 51)), some (49, false)⟩,
    ⟨some 53, (.pick (.t 49) (.c (.bool true)) (.t 52)), none⟩] [0, 2, 5, 7, 10, 11, 12, 53] [5, 7, 10] t2)
         (bailifflaw09_DescStays.sX3 t3))
        (.seq
         (.seq
          (.ops [
            ⟨some 63, (.mv (.t 12)), none⟩,
            ⟨some 64, (.bini .neq (.t 63) (.c (.int .i64 0))), none⟩,
            ⟨some 65, (.mv (.t 64)), none⟩,
            ⟨some 66, (.mv (.t 11)), some (65, false)⟩,
            ⟨some 67, (.not (.t 66)), some (65, false)⟩,
            ⟨some 68, (.pick (.t 65) (.c (.bool true)) (.t 67)), none⟩])
          (bailifflaw09_DescStays.sX4 t4))
         (.seq
          (.ops [
            ⟨some 70, (.load (some 16) (.t 10)), none⟩,
            ⟨some 71, (.call 127 [(.t 70)] (.p2 .dsc (.int .i64)) []), none⟩,
            ⟨some 69, (.mv (.t 71)), none⟩,
            ⟨some 72, (.ext (.t 69) 0), none⟩,
            ⟨some 73, (.ext (.t 69) 1), none⟩,
            ⟨some 15, (.alloc 15 [(.int .u8 0), (.int .u8 0), (.float 0), (.str (bs [])), (.int .i64 0), (.int .u8 0), (.float 0), (.str (bs [])), (.int .i64 0), (.int .u8 0), (.float 0), (.str (bs [])), (.int .i64 0), (.bool false), (.bool false), (.bool false)] none), none⟩,
            ⟨none, (.store 16 (.t 15) (.t 72)), none⟩,
            ⟨some 12, (.mv (.t 73)), none⟩])
          (.seq
           (.seq
            (.draw [
              ⟨some 74, (.mv (.t 12)), none⟩,
              ⟨some 75, (.bini .neq (.t 74) (.c (.int .i64 0))), none⟩,
              ⟨some 76, (.mv (.t 75)), none⟩,
              ⟨some 77, (.faddr 0 (.t 15)), some (76, false)⟩,
              ⟨some 78, (.load none (.t 77)), some (76, false)⟩,
              ⟨some 79, (.faddr 0 (.t 10)), some (76, false)⟩,
              ⟨some 80, (.load none (.t 79)), some (76, false)⟩,
              ⟨some 81, (.bini .neq (.t 78) (.t 80)), some (76, false)⟩,
              ⟨some 82, (.pick (.t 76) (.c (.bool true)) (.t 81)), none⟩,
              ⟨some 83, (.mv (.t 82)), none⟩,
              ⟨some 84, (.faddr 0 (.t 10)), some (83, false)⟩,
              ⟨some 85, (.load none (.t 84)), some (83, false)⟩,
              ⟨some 86, (.bini .neq (.t 85) (.c (.int .u8 51))), some (83, false)⟩,
              ⟨some 87, (.mv (.t 86)), some (83, false)⟩,
              ⟨some 88, (.faddr 0 (.t 10)), some (87, true)⟩,
              ⟨some 89, (.load none (.t 88)), some (87, true)⟩,
              ⟨some 90, (.bini .neq (.t 89) (.c (.int .u8 60))), some (87, true)⟩,
              ⟨some 91, (.pick (.t 87) (.t 90) (.c (.bool false))), some (83, false)⟩,
              ⟨some 92, (.pick (.t 83) (.c (.bool true)) (.t 91)), none⟩,
              ⟨some 93, (.mv (.t 92)), none⟩,
              ⟨some 94, (.load (some 16) (.t 5)), some (93, false)⟩,
              ⟨some 95, (.load (some 16) (.t 10)), some (93, false)⟩,
              ⟨some 96, (.faddr 0 (.t 5)), some (93, false)⟩,
              ⟨some 97, (.load none (.t 96)), some (93, false)⟩,
              ⟨some 98, (.call 3 [(.t 95), (.t 97)] .dsc []), some (93, false)⟩,
              ⟨some 99, (.call 131 [(.t 94), (.t 98)] .bool []), some (93, false)⟩,
              ⟨some 100, (.not (.t 99)), some (93, false)⟩,
              ⟨some 101, (.pick (.t 93) (.c (.bool true)) (.t 100)), none⟩] [[], [0], [0, 1], [0, 1, 2], [0, 1, 2, 3], [0, 1, 2], [0, 1, 2, 5], [0, 1, 2, 3, 4, 5, 6], [0, 1, 2, 3, 4, 5, 6, 7], [0, 1, 2, 3, 4, 5, 6, 7, 8], [0, 1, 2, 3, 4, 5, 6, 7, 8, 9], [0, 1, 2, 3, 4, 5, 6, 7, 8, 9, 10], [0, 1, 2, 3, 4, 5, 6, 7, 8, 9, 10, 11], [0, 1, 2, 3, 4, 5, 6, 7, 8, 9, 10, 11, 12], [0, 1, 2, 3, 4, 5, 6, 7, 8, 9, 10, 11, 12, 13], [0, 1, 2, 3, 4, 5, 6, 7, 8, 9, 10, 11, 12, 13, 14], [0, 1, 2, 3, 4, 5, 6, 7, 8, 9, 10, 11, 12, 13, 14, 15], [0, 1, 2, 3, 4, 5, 6, 7, 8, 9, 10, 11, 12, 13, 14, 15, 16], [0, 1, 2, 3, 4, 5, 6, 7, 8, 9, 10, 11, 12, 13, 14, 15, 16, 17], [0, 1, 2, 3, 4, 5, 6, 7, 8, 9, 10, 11, 12, 13, 14, 15, 16, 17, 18], [0, 1, 2, 3, 4, 5, 6, 7, 8, 9, 10, 11, 12, 13, 14, 15, 16, 17, 18, 19], [0, 1, 2, 3, 4, 5, 6, 7, 8, 9, 10, 11, 12, 13, 14, 15, 16, 17, 18, 19], [0, 1, 2, 3, 4, 5, 6, 7, 8, 9, 10, 11, 12, 13, 14, 15, 16, 17, 18, 19], [0, 1, 2, 3, 4, 5, 6, 7, 8, 9, 10, 11, 12, 13, 14, 15, 16, 17, 18, 19, 22], [0, 1, 2, 3, 4, 5, 6, 7, 8, 9, 10, 11, 12, 13, 14, 15, 16, 17, 18, 19, 21, 22, 23], [0, 1, 2, 3, 4, 5, 6, 7, 8, 9, 10, 11, 12, 13, 14, 15, 16, 17, 18, 19, 20, 21, 22, 23, 24], [0, 1, 2, 3, 4, 5, 6, 7, 8, 9, 10, 11, 12, 13, 14, 15, 16, 17, 18, 19, 20, 21, 22, 23, 24, 25], [0, 1, 2, 3, 4, 5, 6, 7, 8, 9, 10, 11, 12, 13, 14, 15, 16, 17, 18, 19, 20, 21, 22, 23, 24, 25, 26]])
            (.cond (.t 101)
             (.seq
              (.ops [
                ⟨some 8, (.mv (.c (.bool false))), none⟩])
              .ret)
             .skip))
           (.seq
            (.ops [
              ⟨some 103, (.load (some 16) (.t 10)), none⟩,
              ⟨some 104, (.load (some 16) (.t 10)), none⟩,
              ⟨some 105, (.call 124 [(.c (.bool false)), (.t 103), (.c (.bool true)), (.t 104)] (.p3 .dsc .bool (.int .i64)) []), none⟩,
              ⟨some 102, (.mv (.t 105)), none⟩,
              ⟨some 106, (.ext (.t 102) 0), none⟩,
              ⟨some 107, (.ext (.t 102) 1), none⟩,
              ⟨some 108, (.ext (.t 102) 2), none⟩,
              ⟨some 16, (.alloc 16 [(.int .u8 0), (.int .u8 0), (.float 0), (.str (bs [])), (.int .i64 0), (.int .u8 0), (.float 0), (.str (bs [])), (.int .i64 0), (.int .u8 0), (.float 0), (.str (bs [])), (.int .i64 0), (.bool false), (.bool false), (.bool false)] none), none⟩,
              ⟨none, (.store 16 (.t 16) (.t 106)), none⟩,
              ⟨some 11, (.mv (.t 107)), none⟩,
              ⟨some 12, (.mv (.t 108)), none⟩])
            (.seq
             (.seq
  (.opsc [
    ⟨some 109, (.mv (.t 12)), none⟩,
    ⟨some 110, (.bini .neq (.t 109) (.c (.int .i64 0))), none⟩,
    ⟨some 111, (.mv (.t 110)), none⟩,
    ⟨some 112, (.mv (.t 11)), some (111, false)⟩,
    ⟨some 113, (.not (.t 112)), some (111, false)⟩,
    ⟨some 114, (.pick (.t 111) (.c (.bool true)) (.t 113)), none⟩] [0, 2, 7, 10, 16, 114] [7, 10, 16] t5)
              (bailifflaw09_DescStays.sX6 t6))
             (.seq
              (.seq
               (.ops [
                 ⟨some 121, (.mv (.t 2)), none⟩,
                 ⟨some 122, (.not (.t 121)), none⟩])
               (.cond (.t 122)
                (.seq
                 (.ops [
                   ⟨some 123, (.mv (.t 0)), none⟩,
                   ⟨some 8, (.mv (.t 123)), none⟩])
                 .ret)
                .skip))
              (.seq
               (.seq
                (.ops [
                  ⟨some 124, (.faddr 15 (.t 7)), none⟩,
                  ⟨some 125, (.load none (.t 124)), none⟩])
                (.cond (.t 125)
                 (.seq
                  (.ops [
                    ⟨some 8, (.mv (.c (.bool true))), none⟩])
                  .ret)
                 .skip))
               (.seq
                (.seq
  (.opsc [
    ⟨some 126, (.faddr 15 (.t 10)), none⟩,
    ⟨some 127, (.load none (.t 126)), none⟩,
    ⟨some 128, (.mv (.t 127)), none⟩,
    ⟨some 129, (.faddr 14 (.t 10)), some (128, false)⟩,
    ⟨some 130, (.load none (.t 129)), some (128, false)⟩,
    ⟨some 131, (.faddr 14 (.t 7)), some (128, false)⟩,
    ⟨some 132, (.load none (.t 131)), some (128, false)⟩,
    ⟨some 133, (.eqb true (.t 130) (.t 132)), some (128, false)⟩,
    ⟨some 134, (.pick (.t 128) (.c (.bool true)) (.t 133)), none⟩] [7, 10, 134] [7, 10] t7)
                 (bailifflaw09_DescStays.sX8 t8))
                (.seq
                 (.seq
                  (.ops [
                    ⟨some 142, (.load (some 16) (.t 7)), none⟩,
                    ⟨some 143, (.call 128 [(.t 142)] .bool []), none⟩])
                  (.cond (.t 143)
                   (.seq
  (.opsc [
    ⟨some 144, (.faddr 5 (.t 10)), none⟩,
    ⟨some 145, (.load (some 4) (.t 144)), none⟩,
    ⟨some 146, (.faddr 5 (.t 7)), none⟩,
    ⟨some 147, (.load (some 4) (.t 146)), none⟩,
    ⟨some 148, (.call 184 [(.t 145), (.t 147)] .bool []), none⟩,
    ⟨some 149, (.mv (.t 148)), none⟩,
    ⟨some 150, (.faddr 9 (.t 10)), some (149, true)⟩,
    ⟨some 151, (.load (some 4) (.t 150)), some (149, true)⟩,
    ⟨some 152, (.faddr 9 (.t 7)), some (149, true)⟩,
    ⟨some 153, (.load (some 4) (.t 152)), some (149, true)⟩,
    ⟨some 154, (.call 184 [(.t 151), (.t 153)] .bool []), some (149, true)⟩,
    ⟨some 155, (.pick (.t 149) (.t 154) (.c (.bool false))), none⟩] [155] [] t9)
                    .ret)
                   .skip))
                 (.seq
  (.opsc [
    ⟨some 156, (.faddr 13 (.t 7)), none⟩,
    ⟨some 157, (.load none (.t 156)), none⟩,
    ⟨some 158, (.mv (.t 157)), none⟩,
    ⟨some 159, (.faddr 13 (.t 10)), some (158, false)⟩,
    ⟨some 160, (.load none (.t 159)), some (158, false)⟩,
    ⟨some 161, (.not (.t 160)), some (158, false)⟩,
    ⟨some 162, (.mv (.t 161)), some (158, false)⟩,
    ⟨some 163, (.faddr 1 (.t 10)), some (162, true)⟩,
    ⟨some 164, (.load (some 4) (.t 163)), some (162, true)⟩,
    ⟨some 165, (.faddr 1 (.t 7)), some (162, true)⟩,
    ⟨some 166, (.load (some 4) (.t 165)), some (162, true)⟩,
    ⟨some 167, (.call 184 [(.t 164), (.t 166)] .bool []), some (162, true)⟩,
    ⟨some 168, (.pick (.t 162) (.t 167) (.c (.bool false))), some (158, false)⟩,
    ⟨some 169, (.pick (.t 158) (.c (.bool true)) (.t 168)), none⟩] [169] [] t10)
                  .ret))))))))))))))))
def bailifflaw09_DescStays.body : DC := bailifflaw09_DescStays.bodyX bailifflaw09_DescStays.t0 bailifflaw09_DescStays.t1 bailifflaw09_DescStays.t2 bailifflaw09_DescStays.t3 bailifflaw09_DescStays.t4 bailifflaw09_DescStays.t5 bailifflaw09_DescStays.t6 bailifflaw09_DescStays.t7 bailifflaw09_DescStays.t8 bailifflaw09_DescStays.t9 bailifflaw09_DescStays.t10
def bailifflaw09_DescStays : FD := ⟨4, [.tmp 8], bailifflaw09_DescStays.body⟩
/-- 2 bailiff/bailifflaw09.alive -/
def bailifflaw09_alive.tX0 (t0 t1 t2 : DC) : DC :=
  (.ops [
    ⟨some 0, (.mv (.t 26)), none⟩])
def bailifflaw09_alive.t0 : DC := bailifflaw09_alive.tX0 .skip .skip .skip
def bailifflaw09_alive.tX1 (t0 t1 t2 : DC) : DC :=
  (.opsc [
    ⟨some 22, (.mv (.t 21)), none⟩,
    ⟨some 23, (.faddr 13 (.t 1)), some (22, true)⟩,
    ⟨some 24, (.load none (.t 23)), some (22, true)⟩,
    ⟨some 25, (.not (.t 24)), some (22, true)⟩,
    ⟨some 26, (.pick (.t 22) (.t 25) (.c (.bool false))), none⟩] [26] [] t0)
def bailifflaw09_alive.t1 : DC := bailifflaw09_alive.tX1 bailifflaw09_alive.t0 .skip .skip
def bailifflaw09_alive.tX2 (t0 t1 t2 : DC) : DC :=
  (.opsc [
    ⟨some 16, (.mv (.t 15)), none⟩,
    ⟨some 17, (.faddr 1 (.t 1)), some (16, true)⟩,
    ⟨some 18, (.faddr 1 (.t 17)), some (16, true)⟩,
    ⟨some 19, (.load none (.t 18)), some (16, true)⟩,
    ⟨some 20, (.binf .eql (.t 19) (.c (.float 4607182418800017408))), some (16, true)⟩,
    ⟨some 21, (.pick (.t 16) (.t 20) (.c (.bool false))), none⟩] [1, 21] [1] t1)
def bailifflaw09_alive.t2 : DC := bailifflaw09_alive.tX2 bailifflaw09_alive.t0 bailifflaw09_alive.t1 .skip
def bailifflaw09_alive.bodyX (t0 t1 t2 : DC) : DC :=
  (.seq
   (.ops [
     ⟨some 0, (.mv (.c (.bool false))), none⟩])
   (.seq
    (.ops [
      ⟨some 4, (.call 183 [(.c (.float 4607182418800017408))] .val []), none⟩,
      ⟨some 5, (.build [(.int .u8 0), (.int .u8 0), (.float 0), (.str (bs [])), (.int .i64 0), (.int .u8 0), (.float 0), (.str (bs [])), (.int .i64 0), (.int .u8 0), (.float 0), (.str (bs [])), (.int .i64 0), (.bool false), (.bool false), (.bool false)] [((0, 1), (.c (.int .u8 1))), ((1, 4), (.t 4))]), none⟩,
      ⟨some 6, (.call 127 [(.t 5)] (.p2 .dsc (.int .i64)) []), none⟩,
      ⟨some 3, (.mv (.t 6)), none⟩,
      ⟨some 7, (.ext (.t 3) 0), none⟩,
      ⟨some 8, (.ext (.t 3) 1), none⟩,
      ⟨some 1, (.alloc 1 [(.int .u8 0), (.int .u8 0), (.float 0), (.str (bs [])), (.int .i64 0), (.int .u8 0), (.float 0), (.str (bs [])), (.int .i64 0), (.int .u8 0), (.float 0), (.str (bs [])), (.int .i64 0), (.bool false), (.bool false), (.bool false)] none), none⟩,
      ⟨none, (.store 16 (.t 1) (.t 7)), none⟩,
      ⟨some 2, (.mv (.t 8)), none⟩])
    (.seq
  (.opsc [
    ⟨some 9, (.mv (.t 2)), none⟩,
    ⟨some 10, (.bini .eql (.t 9) (.c (.int .i64 0))), none⟩,
    ⟨some 11, (.mv (.t 10)), none⟩,
    ⟨some 12, (.faddr 0 (.t 1)), some (11, true)⟩,
    ⟨some 13, (.load none (.t 12)), some (11, true)⟩,
    ⟨some 14, (.bini .eql (.t 13) (.c (.int .u8 51))), some (11, true)⟩,
    ⟨some 15, (.pick (.t 11) (.t 14) (.c (.bool false))), none⟩] [1, 15] [1] t2)
     .ret)))
def bailifflaw09_alive.body : DC := bailifflaw09_alive.bodyX bailifflaw09_alive.t0 bailifflaw09_alive.t1 bailifflaw09_alive.t2
def bailifflaw09_alive : FD := ⟨0, [.tmp 0], bailifflaw09_alive.body⟩
/-- 3 bailiff/bailifflaw09.left -/
def bailifflaw09_left.tX0 (t0 t1 t2 t3 t4 t5 : DC) : DC :=
          (.seq
           (.ops [
             ⟨some 53, (.load (some 16) (.t 5)), none⟩,
             ⟨none, (.store 16 (.t 4) (.t 53)), none⟩])
           .ret)
def bailifflaw09_left.t0 : DC := bailifflaw09_left.tX0 .skip .skip .skip .skip .skip .skip
def bailifflaw09_left.sX0 (t : DC) : DC := .kp [4, 5] [4, 5] t
def bailifflaw09_left.tX1 (t0 t1 t2 t3 t4 t5 : DC) : DC :=
         (.seq
          (.seq
           (.ops [
             ⟨some 46, (.faddr 0 (.t 5)), none⟩,
             ⟨some 47, (.load none (.t 46)), none⟩,
             ⟨some 48, (.bini .and (.t 47) (.c (.int .u8 32))), none⟩,
             ⟨some 49, (.bini .neq (.t 48) (.c (.int .u8 0))), none⟩])
           (.cond (.t 49)
            (.ops [
              ⟨some 50, (.faddr 15 (.t 2)), none⟩,
              ⟨some 51, (.load none (.t 50)), none⟩,
              ⟨some 52, (.faddr 15 (.t 5)), none⟩,
              ⟨none, (.store 1 (.t 52) (.t 51)), none⟩])
            .skip))
          (bailifflaw09_left.sX0 t0))
def bailifflaw09_left.t1 : DC := bailifflaw09_left.tX1 bailifflaw09_left.t0 .skip .skip .skip .skip .skip
def bailifflaw09_left.sX1 (t : DC) : DC := .kp [2, 4, 5] [2, 4, 5] t
def bailifflaw09_left.tX2 (t0 t1 t2 t3 t4 t5 : DC) : DC :=
        (.seq
         (.seq
          (.ops [
            ⟨some 39, (.faddr 0 (.t 5)), none⟩,
            ⟨some 40, (.load none (.t 39)), none⟩,
            ⟨some 41, (.bini .and (.t 40) (.c (.int .u8 16))), none⟩,
            ⟨some 42, (.bini .neq (.t 41) (.c (.int .u8 0))), none⟩])
          (.cond (.t 42)
           (.ops [
             ⟨some 43, (.faddr 14 (.t 2)), none⟩,
             ⟨some 44, (.load none (.t 43)), none⟩,
             ⟨some 45, (.faddr 14 (.t 5)), none⟩,
             ⟨none, (.store 1 (.t 45) (.t 44)), none⟩])
           .skip))
         (bailifflaw09_left.sX1 t1))
def bailifflaw09_left.t2 : DC := bailifflaw09_left.tX2 bailifflaw09_left.t0 bailifflaw09_left.t1 .skip .skip .skip .skip
def bailifflaw09_left.sX2 (t : DC) : DC := .kp [2, 4, 5] [2, 4, 5] t
def bailifflaw09_left.tX3 (t0 t1 t2 t3 t4 t5 : DC) : DC :=
       (.seq
        (.seq
         (.ops [
           ⟨some 32, (.faddr 0 (.t 5)), none⟩,
           ⟨some 33, (.load none (.t 32)), none⟩,
           ⟨some 34, (.bini .and (.t 33) (.c (.int .u8 8))), none⟩,
           ⟨some 35, (.bini .neq (.t 34) (.c (.int .u8 0))), none⟩])
         (.cond (.t 35)
          (.ops [
            ⟨some 36, (.faddr 9 (.t 2)), none⟩,
            ⟨some 37, (.load (some 4) (.t 36)), none⟩,
            ⟨some 38, (.faddr 9 (.t 5)), none⟩,
            ⟨none, (.store 4 (.t 38) (.t 37)), none⟩])
          .skip))
        (bailifflaw09_left.sX2 t2))
def bailifflaw09_left.t3 : DC := bailifflaw09_left.tX3 bailifflaw09_left.t0 bailifflaw09_left.t1 bailifflaw09_left.t2 .skip .skip .skip
def bailifflaw09_left.sX3 (t : DC) : DC := .kp [2, 4, 5] [2, 4, 5] t
def bailifflaw09_left.tX4 (t0 t1 t2 t3 t4 t5 : DC) : DC :=
      (.seq
       (.seq
        (.ops [
          ⟨some 25, (.faddr 0 (.t 5)), none⟩,
          ⟨some 26, (.load none (.t 25)), none⟩,
          ⟨some 27, (.bini .and (.t 26) (.c (.int .u8 4))), none⟩,
          ⟨some 28, (.bini .neq (.t 27) (.c (.int .u8 0))), none⟩])
        (.cond (.t 28)
         (.ops [
           ⟨some 29, (.faddr 5 (.t 2)), none⟩,
           ⟨some 30, (.load (some 4) (.t 29)), none⟩,
           ⟨some 31, (.faddr 5 (.t 5)), none⟩,
           ⟨none, (.store 4 (.t 31) (.t 30)), none⟩])
         .skip))
       (bailifflaw09_left.sX3 t3))
def bailifflaw09_left.t4 : DC := bailifflaw09_left.tX4 bailifflaw09_left.t0 bailifflaw09_left.t1 bailifflaw09_left.t2 bailifflaw09_left.t3 .skip .skip
def bailifflaw09_left.sX4 (t : DC) : DC := .kp [2, 4, 5] [2, 4, 5] t
def bailifflaw09_left.tX5 (t0 t1 t2 t3 t4 t5 : DC) : DC :=
     (.seq
      (.seq
       (.ops [
         ⟨some 18, (.faddr 0 (.t 5)), none⟩,
         ⟨some 19, (.load none (.t 18)), none⟩,
         ⟨some 20, (.bini .and (.t 19) (.c (.int .u8 2))), none⟩,
         ⟨some 21, (.bini .neq (.t 20) (.c (.int .u8 0))), none⟩])
       (.cond (.t 21)
        (.ops [
          ⟨some 22, (.faddr 13 (.t 2)), none⟩,
          ⟨some 23, (.load none (.t 22)), none⟩,
          ⟨some 24, (.faddr 13 (.t 5)), none⟩,
          ⟨none, (.store 1 (.t 24) (.t 23)), none⟩])
        .skip))
      (bailifflaw09_left.sX4 t4))
def bailifflaw09_left.t5 : DC := bailifflaw09_left.tX5 bailifflaw09_left.t0 bailifflaw09_left.t1 bailifflaw09_left.t2 bailifflaw09_left.t3 bailifflaw09_left.t4 .skip
def bailifflaw09_left.sX5 (t : DC) : DC := .kp [2, 4, 5] [2, 4, 5] t
def bailifflaw09_left.bodyX (t0 t1 t2 t3 t4 t5 : DC) : DC :=
  (.seq
   (.ops [
     ⟨some 2, (.box 2 (.t 0)), none⟩,
     ⟨some 4, (.alloc 4 [(.int .u8 0), (.int .u8 0), (.float 0), (.str (bs [])), (.int .i64 0), (.int .u8 0), (.float 0), (.str (bs [])), (.int .i64 0), (.int .u8 0), (.float 0), (.str (bs [])), (.int .i64 0), (.bool false), (.bool false), (.bool false)] none), none⟩])
   (.seq
    (.ops [
      ⟨some 6, (.faddr 0 (.t 2)), none⟩,
      ⟨some 7, (.load none (.t 6)), none⟩,
      ⟨some 8, (.mv (.t 1)), none⟩,
      ⟨some 9, (.bini .and (.t 7) (.t 8)), none⟩,
      ⟨some 10, (.build [(.int .u8 0), (.int .u8 0), (.float 0), (.str (bs [])), (.int .i64 0), (.int .u8 0), (.float 0), (.str (bs [])), (.int .i64 0), (.int .u8 0), (.float 0), (.str (bs [])), (.int .i64 0), (.bool false), (.bool false), (.bool false)] [((0, 1), (.t 9))]), none⟩,
      ⟨some 5, (.alloc 5 [(.int .u8 0), (.int .u8 0), (.float 0), (.str (bs [])), (.int .i64 0), (.int .u8 0), (.float 0), (.str (bs [])), (.int .i64 0), (.int .u8 0), (.float 0), (.str (bs [])), (.int .i64 0), (.bool false), (.bool false), (.bool false)] none), none⟩,
      ⟨none, (.store 16 (.t 5) (.t 10)), none⟩])
    (.seq
     (.seq
      (.ops [
        ⟨some 11, (.faddr 0 (.t 5)), none⟩,
        ⟨some 12, (.load none (.t 11)), none⟩,
        ⟨some 13, (.bini .and (.t 12) (.c (.int .u8 1))), none⟩,
        ⟨some 14, (.bini .neq (.t 13) (.c (.int .u8 0))), none⟩])
      (.cond (.t 14)
       (.ops [
         ⟨some 15, (.faddr 1 (.t 2)), none⟩,
         ⟨some 16, (.load (some 4) (.t 15)), none⟩,
         ⟨some 17, (.faddr 1 (.t 5)), none⟩,
         ⟨none, (.store 4 (.t 17) (.t 16)), none⟩])
       .skip))
     (bailifflaw09_left.sX5 t5))))
def bailifflaw09_left.body : DC := bailifflaw09_left.bodyX bailifflaw09_left.t0 bailifflaw09_left.t1 bailifflaw09_left.t2 bailifflaw09_left.t3 bailifflaw09_left.t4 bailifflaw09_left.t5
def bailifflaw09_left : FD := ⟨2, [.cell 4 (some 16)], bailifflaw09_left.body⟩
/-- 4 bailiff/bailifflaw09.long -/
def bailifflaw09_long.tX0 (t0 t1 : DC) : DC :=
  (.ops [
    ⟨some 2, (.mv (.t 21)), none⟩])
def bailifflaw09_long.t0 : DC := bailifflaw09_long.tX0 .skip .skip
def bailifflaw09_long.tX1 (t0 t1 : DC) : DC :=
  (.opsc [
    ⟨some 15, (.mv (.t 14)), none⟩,
    ⟨some 16, (.faddr 9 (.t 1)), some (15, false)⟩,
    ⟨some 17, (.faddr 2 (.t 16)), some (15, false)⟩,
    ⟨some 18, (.load none (.t 17)), some (15, false)⟩,
    ⟨some 19, (.len true (.t 18)), some (15, false)⟩,
    ⟨some 20, (.bini .gtr (.t 19) (.c (.int .i64 9000))), some (15, false)⟩,
    ⟨some 21, (.pick (.t 15) (.c (.bool true)) (.t 20)), none⟩] [21] [] t0)
def bailifflaw09_long.t1 : DC := bailifflaw09_long.tX1 bailifflaw09_long.t0 .skip
def bailifflaw09_long.bodyX (t0 t1 : DC) : DC :=
  (.seq
   (.ops [
     ⟨some 1, (.box 1 (.t 0)), none⟩,
     ⟨some 2, (.mv (.c (.bool false))), none⟩])
   (.seq
  (.opsc [
    ⟨some 3, (.faddr 1 (.t 1)), none⟩,
    ⟨some 4, (.faddr 2 (.t 3)), none⟩,
    ⟨some 5, (.load none (.t 4)), none⟩,
    ⟨some 6, (.len true (.t 5)), none⟩,
    ⟨some 7, (.bini .gtr (.t 6) (.c (.int .i64 9000))), none⟩,
    ⟨some 8, (.mv (.t 7)), none⟩,
    ⟨some 9, (.faddr 5 (.t 1)), some (8, false)⟩,
    ⟨some 10, (.faddr 2 (.t 9)), some (8, false)⟩,
    ⟨some 11, (.load none (.t 10)), some (8, false)⟩,
    ⟨some 12, (.len true (.t 11)), some (8, false)⟩,
    ⟨some 13, (.bini .gtr (.t 12) (.c (.int .i64 9000))), some (8, false)⟩,
    ⟨some 14, (.pick (.t 8) (.c (.bool true)) (.t 13)), none⟩] [1, 14] [1] t1)
    .ret))
def bailifflaw09_long.body : DC := bailifflaw09_long.bodyX bailifflaw09_long.t0 bailifflaw09_long.t1
def bailifflaw09_long : FD := ⟨1, [.tmp 2], bailifflaw09_long.body⟩
/-- 124 bailiff/desc.Apply -/
def desc_Apply.tX0 (t0 t1 t2 t3 t4 t5 t6 t7 t8 t9 : DC) : DC :=
      (.cond (.t 27)
       (.seq
        (.ops [
          ⟨some 28, (.build [(.int .u8 0), (.int .u8 0), (.float 0), (.str (bs [])), (.int .i64 0), (.int .u8 0), (.float 0), (.str (bs [])), (.int .i64 0), (.int .u8 0), (.float 0), (.str (bs [])), (.int .i64 0), (.bool false), (.bool false), (.bool false)] []), none⟩,
          ⟨some 29, (.mv (.t 12)), none⟩,
          ⟨none, (.store 16 (.t 8) (.t 28)), none⟩,
          ⟨some 9, (.mv (.c (.bool false))), none⟩,
          ⟨some 10, (.mv (.t 29)), none⟩])
        .ret)
       .skip)
def desc_Apply.t0 : DC := desc_Apply.tX0 .skip .skip .skip .skip .skip .skip .skip .skip .skip .skip
def desc_Apply.sX0 (t : DC) : DC := .kp [2, 5, 7, 8, 12, 27] [5, 7, 8] t
def desc_Apply.tX1 (t0 t1 t2 t3 t4 t5 t6 t7 t8 t9 : DC) : DC :=
  (.ops [
    ⟨some 41, (.mv (.t 40)), none⟩,
    ⟨some 42, (.load (some 16) (.t 5)), some (41, false)⟩,
    ⟨some 43, (.call 128 [(.t 42)] .bool []), some (41, false)⟩,
    ⟨some 44, (.mv (.t 43)), some (41, false)⟩,
    ⟨some 45, (.load (some 16) (.t 7)), some (44, true)⟩,
    ⟨some 46, (.call 129 [(.t 45)] .bool []), some (44, true)⟩,
    ⟨some 47, (.pick (.t 44) (.t 46) (.c (.bool false))), some (41, false)⟩,
    ⟨some 48, (.pick (.t 41) (.c (.bool true)) (.t 47)), none⟩])
def desc_Apply.t1 : DC := desc_Apply.tX1 desc_Apply.t0 .skip .skip .skip .skip .skip .skip .skip .skip .skip
def desc_Apply.tX2 (t0 t1 t2 t3 t4 t5 t6 t7 t8 t9 : DC) : DC :=
         (.cond (.t 48)
          (.ops [
            ⟨some 49, (.faddr 0 (.t 5)), none⟩,
            ⟨some 50, (.load none (.t 49)), none⟩,
            ⟨some 51, (.bini .andNot (.t 50) (.c (.int .u8 48))), none⟩,
            ⟨some 52, (.faddr 14 (.t 7)), none⟩,
            ⟨some 53, (.load none (.t 52)), none⟩,
            ⟨some 54, (.faddr 15 (.t 7)), none⟩,
            ⟨some 55, (.load none (.t 54)), none⟩,
            ⟨some 56, (.build [(.int .u8 0), (.int .u8 0), (.float 0), (.str (bs [])), (.int .i64 0), (.int .u8 0), (.float 0), (.str (bs [])), (.int .i64 0), (.int .u8 0), (.float 0), (.str (bs [])), (.int .i64 0), (.bool false), (.bool false), (.bool false)] [((0, 1), (.t 51)), ((14, 1), (.t 53)), ((15, 1), (.t 55))]), none⟩,
            ⟨some 57, (.call 135 [(.t 56)] .dsc []), none⟩,
            ⟨none, (.store 16 (.t 13) (.t 57)), none⟩])
          .skip)
def desc_Apply.t2 : DC := desc_Apply.tX2 desc_Apply.t0 desc_Apply.t1 .skip .skip .skip .skip .skip .skip .skip .skip
def desc_Apply.sX2 (t : DC) : DC := .kp [5, 7, 8, 13, 48] [5, 7, 8, 13] t
def desc_Apply.tX3 (t0 t1 t2 t3 t4 t5 t6 t7 t8 t9 : DC) : DC :=
              (.seq
               (.ops [
                 ⟨some 100, (.load (some 16) (.t 13)), none⟩,
                 ⟨none, (.store 16 (.t 8) (.t 100)), none⟩,
                 ⟨some 9, (.mv (.c (.bool true))), none⟩,
                 ⟨some 10, (.mv (.c (.int .i64 0))), none⟩])
               .ret)
def desc_Apply.t3 : DC := desc_Apply.tX3 desc_Apply.t0 desc_Apply.t1 desc_Apply.t2 .skip .skip .skip .skip .skip .skip .skip
def desc_Apply.sX3 (t : DC) : DC := .kp [8, 13] [8, 13] t
def desc_Apply.tX4 (t0 t1 t2 t3 t4 t5 t6 t7 t8 t9 : DC) : DC :=
             (.seq
              (.seq
               (.ops [
                 ⟨some 93, (.faddr 0 (.t 5)), none⟩,
                 ⟨some 94, (.load none (.t 93)), none⟩,
                 ⟨some 95, (.bini .and (.t 94) (.c (.int .u8 32))), none⟩,
                 ⟨some 96, (.bini .neq (.t 95) (.c (.int .u8 0))), none⟩])
               (.cond (.t 96)
                (.ops [
                  ⟨some 97, (.faddr 15 (.t 5)), none⟩,
                  ⟨some 98, (.load none (.t 97)), none⟩,
                  ⟨some 99, (.faddr 15 (.t 13)), none⟩,
                  ⟨none, (.store 1 (.t 99) (.t 98)), none⟩])
                .skip))
              (desc_Apply.sX3 t3))
def desc_Apply.t4 : DC := desc_Apply.tX4 desc_Apply.t0 desc_Apply.t1 desc_Apply.t2 desc_Apply.t3 .skip .skip .skip .skip .skip .skip
def desc_Apply.sX4 (t : DC) : DC := .kp [5, 8, 13] [5, 8, 13] t
def desc_Apply.tX5 (t0 t1 t2 t3 t4 t5 t6 t7 t8 t9 : DC) : DC :=
            (.seq
             (.seq
              (.ops [
                ⟨some 86, (.faddr 0 (.t 5)), none⟩,
                ⟨some 87, (.load none (.t 86)), none⟩,
                ⟨some 88, (.bini .and (.t 87) (.c (.int .u8 16))), none⟩,
                ⟨some 89, (.bini .neq (.t 88) (.c (.int .u8 0))), none⟩])
              (.cond (.t 89)
               (.ops [
                 ⟨some 90, (.faddr 14 (.t 5)), none⟩,
                 ⟨some 91, (.load none (.t 90)), none⟩,
                 ⟨some 92, (.faddr 14 (.t 13)), none⟩,
                 ⟨none, (.store 1 (.t 92) (.t 91)), none⟩])
               .skip))
             (desc_Apply.sX4 t4))
def desc_Apply.t5 : DC := desc_Apply.tX5 desc_Apply.t0 desc_Apply.t1 desc_Apply.t2 desc_Apply.t3 desc_Apply.t4 .skip .skip .skip .skip .skip
def desc_Apply.sX5 (t : DC) : DC := .kp [5, 8, 13] [5, 8, 13] t
def desc_Apply.tX6 (t0 t1 t2 t3 t4 t5 t6 t7 t8 t9 : DC) : DC :=
           (.seq
            (.seq
             (.ops [
               ⟨some 79, (.faddr 0 (.t 5)), none⟩,
               ⟨some 80, (.load none (.t 79)), none⟩,
               ⟨some 81, (.bini .and (.t 80) (.c (.int .u8 8))), none⟩,
               ⟨some 82, (.bini .neq (.t 81) (.c (.int .u8 0))), none⟩])
             (.cond (.t 82)
              (.ops [
                ⟨some 83, (.faddr 9 (.t 5)), none⟩,
                ⟨some 84, (.load (some 4) (.t 83)), none⟩,
                ⟨some 85, (.faddr 9 (.t 13)), none⟩,
                ⟨none, (.store 4 (.t 85) (.t 84)), none⟩])
              .skip))
            (desc_Apply.sX5 t5))
def desc_Apply.t6 : DC := desc_Apply.tX6 desc_Apply.t0 desc_Apply.t1 desc_Apply.t2 desc_Apply.t3 desc_Apply.t4 desc_Apply.t5 .skip .skip .skip .skip
def desc_Apply.sX6 (t : DC) : DC := .kp [5, 8, 13] [5, 8, 13] t
def desc_Apply.tX7 (t0 t1 t2 t3 t4 t5 t6 t7 t8 t9 : DC) : DC :=
          (.seq
           (.seq
            (.ops [
              ⟨some 72, (.faddr 0 (.t 5)), none⟩,
              ⟨some 73, (.load none (.t 72)), none⟩,
              ⟨some 74, (.bini .and (.t 73) (.c (.int .u8 4))), none⟩,
              ⟨some 75, (.bini .neq (.t 74) (.c (.int .u8 0))), none⟩])
            (.cond (.t 75)
             (.ops [
               ⟨some 76, (.faddr 5 (.t 5)), none⟩,
               ⟨some 77, (.load (some 4) (.t 76)), none⟩,
               ⟨some 78, (.faddr 5 (.t 13)), none⟩,
               ⟨none, (.store 4 (.t 78) (.t 77)), none⟩])
             .skip))
           (desc_Apply.sX6 t6))
def desc_Apply.t7 : DC := desc_Apply.tX7 desc_Apply.t0 desc_Apply.t1 desc_Apply.t2 desc_Apply.t3 desc_Apply.t4 desc_Apply.t5 desc_Apply.t6 .skip .skip .skip
def desc_Apply.sX7 (t : DC) : DC := .kp [5, 8, 13] [5, 8, 13] t
def desc_Apply.tX8 (t0 t1 t2 t3 t4 t5 t6 t7 t8 t9 : DC) : DC :=
         (.seq
          (.seq
           (.ops [
             ⟨some 65, (.faddr 0 (.t 5)), none⟩,
             ⟨some 66, (.load none (.t 65)), none⟩,
             ⟨some 67, (.bini .and (.t 66) (.c (.int .u8 2))), none⟩,
             ⟨some 68, (.bini .neq (.t 67) (.c (.int .u8 0))), none⟩])
           (.cond (.t 68)
            (.ops [
              ⟨some 69, (.faddr 13 (.t 5)), none⟩,
              ⟨some 70, (.load none (.t 69)), none⟩,
              ⟨some 71, (.faddr 13 (.t 13)), none⟩,
              ⟨none, (.store 1 (.t 71) (.t 70)), none⟩])
            .skip))
          (desc_Apply.sX7 t7))
def desc_Apply.t8 : DC := desc_Apply.tX8 desc_Apply.t0 desc_Apply.t1 desc_Apply.t2 desc_Apply.t3 desc_Apply.t4 desc_Apply.t5 desc_Apply.t6 desc_Apply.t7 .skip .skip
def desc_Apply.sX8 (t : DC) : DC := .kp [5, 8, 13] [5, 8, 13] t
def desc_Apply.tX9 (t0 t1 t2 t3 t4 t5 t6 t7 t8 t9 : DC) : DC :=
        (.seq
         (.seq
          (.ops [
            ⟨some 58, (.faddr 0 (.t 5)), none⟩,
            ⟨some 59, (.load none (.t 58)), none⟩,
            ⟨some 60, (.bini .and (.t 59) (.c (.int .u8 1))), none⟩,
            ⟨some 61, (.bini .neq (.t 60) (.c (.int .u8 0))), none⟩])
          (.cond (.t 61)
           (.ops [
             ⟨some 62, (.faddr 1 (.t 5)), none⟩,
             ⟨some 63, (.load (some 4) (.t 62)), none⟩,
             ⟨some 64, (.faddr 1 (.t 13)), none⟩,
             ⟨none, (.store 4 (.t 64) (.t 63)), none⟩])
           .skip))
         (desc_Apply.sX8 t8))
def desc_Apply.t9 : DC := desc_Apply.tX9 desc_Apply.t0 desc_Apply.t1 desc_Apply.t2 desc_Apply.t3 desc_Apply.t4 desc_Apply.t5 desc_Apply.t6 desc_Apply.t7 desc_Apply.t8 .skip
def desc_Apply.sX9 (t : DC) : DC := .kp [5, 8, 13] [5, 8, 13] t
def desc_Apply.bodyX (t0 t1 t2 t3 t4 t5 t6 t7 t8 t9 : DC) : DC :=
  (.seq
   (.ops [
     ⟨some 5, (.box 5 (.t 1)), none⟩,
     ⟨some 7, (.box 7 (.t 3)), none⟩,
     ⟨some 8, (.alloc 8 [(.int .u8 0), (.int .u8 0), (.float 0), (.str (bs [])), (.int .i64 0), (.int .u8 0), (.float 0), (.str (bs [])), (.int .i64 0), (.int .u8 0), (.float 0), (.str (bs [])), (.int .i64 0), (.bool false), (.bool false), (.bool false)] none), none⟩,
     ⟨some 9, (.mv (.c (.bool false))), none⟩,
     ⟨some 10, (.mv (.c (.int .i64 0))), none⟩])
   (.seq
    (.ops [
      ⟨some 15, (.mv (.t 0)), none⟩,
      ⟨some 16, (.load (some 16) (.t 5)), none⟩,
      ⟨some 17, (.mv (.t 2)), none⟩,
      ⟨some 18, (.load (some 16) (.t 7)), none⟩,
      ⟨some 19, (.call 126 [(.t 15), (.t 16), (.t 17), (.t 18)] (.p2 .bool (.int .i64)) []), none⟩,
      ⟨some 14, (.mv (.t 19)), none⟩,
      ⟨some 20, (.ext (.t 14) 0), none⟩,
      ⟨some 21, (.ext (.t 14) 1), none⟩,
      ⟨some 11, (.mv (.t 20)), none⟩,
      ⟨some 12, (.mv (.t 21)), none⟩])
    (.seq
     (.seq
      (.ops [
        ⟨some 22, (.mv (.t 12)), none⟩,
        ⟨some 23, (.bini .neq (.t 22) (.c (.int .i64 0))), none⟩,
        ⟨some 24, (.mv (.t 23)), none⟩,
        ⟨some 25, (.mv (.t 11)), some (24, false)⟩,
        ⟨some 26, (.not (.t 25)), some (24, false)⟩,
        ⟨some 27, (.pick (.t 24) (.c (.bool true)) (.t 26)), none⟩])
      (desc_Apply.sX0 t0))
     (.seq
      (.seq
       (.ops [
         ⟨some 30, (.mv (.t 2)), none⟩,
         ⟨some 31, (.not (.t 30)), none⟩])
       (.cond (.t 31)
        (.seq
         (.ops [
           ⟨some 32, (.load (some 16) (.t 5)), none⟩,
           ⟨some 33, (.call 135 [(.t 32)] .dsc []), none⟩,
           ⟨none, (.store 16 (.t 8) (.t 33)), none⟩,
           ⟨some 9, (.mv (.c (.bool true))), none⟩,
           ⟨some 10, (.mv (.c (.int .i64 0))), none⟩])
         .ret)
        .skip))
      (.seq
       (.ops [
         ⟨some 34, (.load (some 16) (.t 7)), none⟩,
         ⟨some 13, (.alloc 13 [(.int .u8 0), (.int .u8 0), (.float 0), (.str (bs [])), (.int .i64 0), (.int .u8 0), (.float 0), (.str (bs [])), (.int .i64 0), (.int .u8 0), (.float 0), (.str (bs [])), (.int .i64 0), (.bool false), (.bool false), (.bool false)] none), none⟩,
         ⟨none, (.store 16 (.t 13) (.t 34)), none⟩])
       (.seq
        (.seq
  (.opsc [
    ⟨some 35, (.load (some 16) (.t 5)), none⟩,
    ⟨some 36, (.call 129 [(.t 35)] .bool []), none⟩,
    ⟨some 37, (.mv (.t 36)), none⟩,
    ⟨some 38, (.load (some 16) (.t 7)), some (37, true)⟩,
    ⟨some 39, (.call 128 [(.t 38)] .bool []), some (37, true)⟩,
    ⟨some 40, (.pick (.t 37) (.t 39) (.c (.bool false))), none⟩] [5, 7, 8, 13, 40] [5, 7, 8, 13] t1)
         (desc_Apply.sX2 t2))
        (desc_Apply.sX9 t9)))))))
def desc_Apply.body : DC := desc_Apply.bodyX desc_Apply.t0 desc_Apply.t1 desc_Apply.t2 desc_Apply.t3 desc_Apply.t4 desc_Apply.t5 desc_Apply.t6 desc_Apply.t7 desc_Apply.t8 desc_Apply.t9
def desc_Apply : FD := ⟨4, [.cell 8 (some 16), .tmp 9, .tmp 10], desc_Apply.body⟩
/-- 125 bailiff/desc.Check -/
def desc_Check.tX0 (t0 t1 t2 t3 t4 t5 t6 t7 t8 t9 : DC) : DC :=
  (.ops [
    ⟨some 31, (.mv (.t 30)), none⟩,
    ⟨some 32, (.faddr 9 (.t 1)), some (31, false)⟩,
    ⟨some 33, (.load (some 4) (.t 32)), some (31, false)⟩,
    ⟨some 34, (.call 133 [(.t 33)] .bool []), some (31, false)⟩,
    ⟨some 35, (.not (.t 34)), some (31, false)⟩,
    ⟨some 36, (.pick (.t 31) (.c (.bool true)) (.t 35)), none⟩])
def desc_Check.t0 : DC := desc_Check.tX0 .skip .skip .skip .skip .skip .skip .skip .skip .skip .skip
def desc_Check.tX1 (t0 t1 t2 t3 t4 t5 t6 t7 t8 t9 : DC) : DC :=
  (.opsc [
    ⟨some 25, (.mv (.t 24)), none⟩,
    ⟨some 26, (.faddr 5 (.t 1)), some (25, false)⟩,
    ⟨some 27, (.load (some 4) (.t 26)), some (25, false)⟩,
    ⟨some 28, (.call 133 [(.t 27)] .bool []), some (25, false)⟩,
    ⟨some 29, (.not (.t 28)), some (25, false)⟩,
    ⟨some 30, (.pick (.t 25) (.c (.bool true)) (.t 29)), none⟩] [1, 30] [1] t0)
def desc_Check.t1 : DC := desc_Check.tX1 desc_Check.t0 .skip .skip .skip .skip .skip .skip .skip .skip .skip
def desc_Check.tX2 (t0 t1 t2 t3 t4 t5 t6 t7 t8 t9 : DC) : DC :=
  (.opsc [
    ⟨some 19, (.mv (.t 18)), none⟩,
    ⟨some 20, (.faddr 1 (.t 1)), some (19, false)⟩,
    ⟨some 21, (.load (some 4) (.t 20)), some (19, false)⟩,
    ⟨some 22, (.call 182 [(.t 21)] .bool []), some (19, false)⟩,
    ⟨some 23, (.not (.t 22)), some (19, false)⟩,
    ⟨some 24, (.pick (.t 19) (.c (.bool true)) (.t 23)), none⟩] [1, 24] [1] t1)
def desc_Check.t2 : DC := desc_Check.tX2 desc_Check.t0 desc_Check.t1 .skip .skip .skip .skip .skip .skip .skip .skip
def desc_Check.tX3 (t0 t1 t2 t3 t4 t5 t6 t7 t8 t9 : DC) : DC :=
       (.cond (.t 36)
        (.seq
         (.ops [
           ⟨some 2, (.mv (.c (.int .i64 90))), none⟩])
         .ret)
        .skip)
def desc_Check.t3 : DC := desc_Check.tX3 desc_Check.t0 desc_Check.t1 desc_Check.t2 .skip .skip .skip .skip .skip .skip .skip
def desc_Check.sX3 (t : DC) : DC := .kp [1, 36] [1] t
def desc_Check.tX4 (t0 t1 t2 t3 t4 t5 t6 t7 t8 t9 : DC) : DC :=
  (.ops [
    ⟨some 60, (.mv (.t 59)), none⟩,
    ⟨some 61, (.mv (.t 4)), some (60, false)⟩,
    ⟨some 62, (.bini .and (.t 61) (.c (.int .u8 8))), some (60, false)⟩,
    ⟨some 63, (.bini .neq (.t 62) (.c (.int .u8 0))), some (60, false)⟩,
    ⟨some 64, (.mv (.t 63)), some (60, false)⟩,
    ⟨some 65, (.faddr 9 (.t 1)), some (64, true)⟩,
    ⟨some 66, (.load (some 4) (.t 65)), some (64, true)⟩,
    ⟨some 67, (.build [(.int .u8 0), (.float 0), (.str (bs [])), (.int .i64 0)] []), some (64, true)⟩,
    ⟨some 68, (.eqa true [0, 3, 2, 0] (.t 66) (.t 67)), some (64, true)⟩,
    ⟨some 69, (.pick (.t 64) (.t 68) (.c (.bool false))), some (60, false)⟩,
    ⟨some 70, (.pick (.t 60) (.c (.bool true)) (.t 69)), none⟩])
def desc_Check.t4 : DC := desc_Check.tX4 desc_Check.t0 desc_Check.t1 desc_Check.t2 desc_Check.t3 .skip .skip .skip .skip .skip .skip
def desc_Check.tX5 (t0 t1 t2 t3 t4 t5 t6 t7 t8 t9 : DC) : DC :=
  (.opsc [
    ⟨some 49, (.mv (.t 48)), none⟩,
    ⟨some 50, (.mv (.t 4)), some (49, false)⟩,
    ⟨some 51, (.bini .and (.t 50) (.c (.int .u8 4))), some (49, false)⟩,
    ⟨some 52, (.bini .neq (.t 51) (.c (.int .u8 0))), some (49, false)⟩,
    ⟨some 53, (.mv (.t 52)), some (49, false)⟩,
    ⟨some 54, (.faddr 5 (.t 1)), some (53, true)⟩,
    ⟨some 55, (.load (some 4) (.t 54)), some (53, true)⟩,
    ⟨some 56, (.build [(.int .u8 0), (.float 0), (.str (bs [])), (.int .i64 0)] []), some (53, true)⟩,
    ⟨some 57, (.eqa true [0, 3, 2, 0] (.t 55) (.t 56)), some (53, true)⟩,
    ⟨some 58, (.pick (.t 53) (.t 57) (.c (.bool false))), some (49, false)⟩,
    ⟨some 59, (.pick (.t 49) (.c (.bool true)) (.t 58)), none⟩] [1, 4, 59] [1] t4)
def desc_Check.t5 : DC := desc_Check.tX5 desc_Check.t0 desc_Check.t1 desc_Check.t2 desc_Check.t3 desc_Check.t4 .skip .skip .skip .skip .skip
def desc_Check.tX6 (t0 t1 t2 t3 t4 t5 t6 t7 t8 t9 : DC) : DC :=
         (.cond (.t 70)
          (.seq
           (.ops [
             ⟨some 2, (.mv (.c (.int .i64 90))), none⟩])
           .ret)
          .skip)
def desc_Check.t6 : DC := desc_Check.tX6 desc_Check.t0 desc_Check.t1 desc_Check.t2 desc_Check.t3 desc_Check.t4 desc_Check.t5 .skip .skip .skip .skip
def desc_Check.sX6 (t : DC) : DC := .kp [1, 4, 70] [1] t
def desc_Check.tX7 (t0 t1 t2 t3 t4 t5 t6 t7 t8 t9 : DC) : DC :=
  (.ops [
    ⟨some 87, (.mv (.t 86)), none⟩,
    ⟨some 88, (.mv (.t 4)), some (87, false)⟩,
    ⟨some 89, (.bini .and (.t 88) (.c (.int .u8 32))), some (87, false)⟩,
    ⟨some 90, (.bini .neq (.t 89) (.c (.int .u8 0))), some (87, false)⟩,
    ⟨some 91, (.mv (.t 90)), some (87, false)⟩,
    ⟨some 92, (.faddr 15 (.t 1)), some (91, true)⟩,
    ⟨some 93, (.load none (.t 92)), some (91, true)⟩,
    ⟨some 94, (.pick (.t 91) (.t 93) (.c (.bool false))), some (87, false)⟩,
    ⟨some 95, (.pick (.t 87) (.c (.bool true)) (.t 94)), none⟩])
def desc_Check.t7 : DC := desc_Check.tX7 desc_Check.t0 desc_Check.t1 desc_Check.t2 desc_Check.t3 desc_Check.t4 desc_Check.t5 desc_Check.t6 .skip .skip .skip
def desc_Check.tX8 (t0 t1 t2 t3 t4 t5 t6 t7 t8 t9 : DC) : DC :=
  (.opsc [
    ⟨some 78, (.mv (.t 77)), none⟩,
    ⟨some 79, (.mv (.t 4)), some (78, false)⟩,
    ⟨some 80, (.bini .and (.t 79) (.c (.int .u8 16))), some (78, false)⟩,
    ⟨some 81, (.bini .neq (.t 80) (.c (.int .u8 0))), some (78, false)⟩,
    ⟨some 82, (.mv (.t 81)), some (78, false)⟩,
    ⟨some 83, (.faddr 14 (.t 1)), some (82, true)⟩,
    ⟨some 84, (.load none (.t 83)), some (82, true)⟩,
    ⟨some 85, (.pick (.t 82) (.t 84) (.c (.bool false))), some (78, false)⟩,
    ⟨some 86, (.pick (.t 78) (.c (.bool true)) (.t 85)), none⟩] [1, 4, 86] [1] t7)
def desc_Check.t8 : DC := desc_Check.tX8 desc_Check.t0 desc_Check.t1 desc_Check.t2 desc_Check.t3 desc_Check.t4 desc_Check.t5 desc_Check.t6 desc_Check.t7 .skip .skip
def desc_Check.tX9 (t0 t1 t2 t3 t4 t5 t6 t7 t8 t9 : DC) : DC :=
          (.cond (.t 95)
           (.seq
            (.ops [
              ⟨some 2, (.mv (.c (.int .i64 90))), none⟩])
            .ret)
           .skip)
def desc_Check.t9 : DC := desc_Check.tX9 desc_Check.t0 desc_Check.t1 desc_Check.t2 desc_Check.t3 desc_Check.t4 desc_Check.t5 desc_Check.t6 desc_Check.t7 desc_Check.t8 .skip
def desc_Check.sX9 (t : DC) : DC := .kp [95] [] t
def desc_Check.bodyX (t0 t1 t2 t3 t4 t5 t6 t7 t8 t9 : DC) : DC :=
  (.seq
   (.ops [
     ⟨some 1, (.box 1 (.t 0)), none⟩,
     ⟨some 2, (.mv (.c (.int .i64 0))), none⟩])
   (.seq
    (.ops [
      ⟨some 5, (.faddr 0 (.t 1)), none⟩,
      ⟨some 6, (.load none (.t 5)), none⟩,
      ⟨some 3, (.mv (.t 6)), none⟩])
    (.seq
     (.ops [
       ⟨some 7, (.mv (.t 3)), none⟩,
       ⟨some 8, (.bini .andNot (.t 7) (.c (.int .u8 63))), none⟩,
       ⟨some 3, (.mv (.t 8)), none⟩])
     (.seq
      (.seq
  (.opsc [
    ⟨some 9, (.mv (.t 3)), none⟩,
    ⟨some 10, (.bini .neq (.t 9) (.c (.int .u8 0))), none⟩,
    ⟨some 11, (.mv (.t 10)), none⟩,
    ⟨some 12, (.load (some 16) (.t 1)), some (11, false)⟩,
    ⟨some 13, (.call 129 [(.t 12)] .bool []), some (11, false)⟩,
    ⟨some 14, (.mv (.t 13)), some (11, false)⟩,
    ⟨some 15, (.load (some 16) (.t 1)), some (14, true)⟩,
    ⟨some 16, (.call 128 [(.t 15)] .bool []), some (14, true)⟩,
    ⟨some 17, (.pick (.t 14) (.t 16) (.c (.bool false))), some (11, false)⟩,
    ⟨some 18, (.pick (.t 11) (.c (.bool true)) (.t 17)), none⟩] [1, 18] [1] t2)
       (desc_Check.sX3 t3))
      (.seq
       (.ops [
         ⟨some 37, (.faddr 0 (.t 1)), none⟩,
         ⟨some 38, (.load none (.t 37)), none⟩,
         ⟨some 39, (.xor (.t 38)), none⟩,
         ⟨some 4, (.mv (.t 39)), none⟩])
       (.seq
        (.seq
  (.opsc [
    ⟨some 40, (.mv (.t 4)), none⟩,
    ⟨some 41, (.bini .and (.t 40) (.c (.int .u8 1))), none⟩,
    ⟨some 42, (.bini .neq (.t 41) (.c (.int .u8 0))), none⟩,
    ⟨some 43, (.mv (.t 42)), none⟩,
    ⟨some 44, (.faddr 1 (.t 1)), some (43, true)⟩,
    ⟨some 45, (.load (some 4) (.t 44)), some (43, true)⟩,
    ⟨some 46, (.build [(.int .u8 0), (.float 0), (.str (bs [])), (.int .i64 0)] []), some (43, true)⟩,
    ⟨some 47, (.eqa true [0, 3, 2, 0] (.t 45) (.t 46)), some (43, true)⟩,
    ⟨some 48, (.pick (.t 43) (.t 47) (.c (.bool false))), none⟩] [1, 4, 48] [1] t5)
         (desc_Check.sX6 t6))
        (.seq
         (.seq
  (.opsc [
    ⟨some 71, (.mv (.t 4)), none⟩,
    ⟨some 72, (.bini .and (.t 71) (.c (.int .u8 2))), none⟩,
    ⟨some 73, (.bini .neq (.t 72) (.c (.int .u8 0))), none⟩,
    ⟨some 74, (.mv (.t 73)), none⟩,
    ⟨some 75, (.faddr 13 (.t 1)), some (74, true)⟩,
    ⟨some 76, (.load none (.t 75)), some (74, true)⟩,
    ⟨some 77, (.pick (.t 74) (.t 76) (.c (.bool false))), none⟩] [1, 4, 77] [1] t8)
          (desc_Check.sX9 t9))
         (.seq
          (.ops [
            ⟨some 2, (.mv (.c (.int .i64 0))), none⟩])
          .ret))))))))
def desc_Check.body : DC := desc_Check.bodyX desc_Check.t0 desc_Check.t1 desc_Check.t2 desc_Check.t3 desc_Check.t4 desc_Check.t5 desc_Check.t6 desc_Check.t7 desc_Check.t8 desc_Check.t9
def desc_Check : FD := ⟨1, [.tmp 2], desc_Check.body⟩
/-- 126 bailiff/desc.Compatible -/
def desc_Compatible.bodyX : DC :=
  (.seq
   (.ops [
     ⟨some 5, (.box 5 (.t 1)), none⟩,
     ⟨some 7, (.box 7 (.t 3)), none⟩,
     ⟨some 8, (.mv (.c (.bool false))), none⟩,
     ⟨some 9, (.mv (.c (.int .i64 0))), none⟩])
   (.seq
    (.seq
     (.ops [
       ⟨some 11, (.load (some 16) (.t 5)), none⟩,
       ⟨some 12, (.mv (.t 2)), none⟩,
       ⟨some 13, (.load (some 16) (.t 7)), none⟩,
       ⟨some 14, (.call 132 [(.t 11), (.t 12), (.t 13)] (.int .i64) []), none⟩,
       ⟨some 10, (.mv (.t 14)), none⟩])
     (.seq
      (.ops [
        ⟨some 15, (.mv (.t 10)), none⟩,
        ⟨some 16, (.bini .neq (.t 15) (.c (.int .i64 0))), none⟩])
      (.cond (.t 16)
       (.seq
        (.ops [
          ⟨some 17, (.mv (.t 10)), none⟩,
          ⟨some 8, (.mv (.c (.bool false))), none⟩,
          ⟨some 9, (.mv (.t 17)), none⟩])
        .ret)
       .skip)))
    (.seq
     (.seq
      (.ops [
        ⟨some 18, (.mv (.t 2)), none⟩,
        ⟨some 19, (.not (.t 18)), none⟩])
      (.cond (.t 19)
       (.seq
        (.ops [
          ⟨some 20, (.mv (.t 0)), none⟩,
          ⟨some 8, (.mv (.t 20)), none⟩,
          ⟨some 9, (.mv (.c (.int .i64 0))), none⟩])
        .ret)
       .skip))
     (.seq
      (.ops [
        ⟨some 21, (.load (some 16) (.t 5)), none⟩,
        ⟨some 22, (.load (some 16) (.t 7)), none⟩,
        ⟨some 23, (.call 134 [(.t 21), (.t 22)] .bool []), none⟩,
        ⟨some 8, (.mv (.t 23)), none⟩,
        ⟨some 9, (.mv (.c (.int .i64 0))), none⟩])
      .ret))))
def desc_Compatible.body : DC := desc_Compatible.bodyX
def desc_Compatible : FD := ⟨4, [.tmp 8, .tmp 9], desc_Compatible.body⟩
/-- 127 bailiff/desc.Complete -/
def desc_Complete.bodyX : DC :=
  (.seq
   (.ops [
     ⟨some 1, (.box 1 (.t 0)), none⟩,
     ⟨some 2, (.alloc 2 [(.int .u8 0), (.int .u8 0), (.float 0), (.str (bs [])), (.int .i64 0), (.int .u8 0), (.float 0), (.str (bs [])), (.int .i64 0), (.int .u8 0), (.float 0), (.str (bs [])), (.int .i64 0), (.bool false), (.bool false), (.bool false)] none), none⟩,
     ⟨some 3, (.mv (.c (.int .i64 0))), none⟩])
   (.seq
    (.seq
     (.ops [
       ⟨some 5, (.load (some 16) (.t 1)), none⟩,
       ⟨some 6, (.call 125 [(.t 5)] (.int .i64) []), none⟩,
       ⟨some 4, (.mv (.t 6)), none⟩])
     (.seq
      (.ops [
        ⟨some 7, (.mv (.t 4)), none⟩,
        ⟨some 8, (.bini .neq (.t 7) (.c (.int .i64 0))), none⟩])
      (.cond (.t 8)
       (.seq
        (.ops [
          ⟨some 9, (.build [(.int .u8 0), (.int .u8 0), (.float 0), (.str (bs [])), (.int .i64 0), (.int .u8 0), (.float 0), (.str (bs [])), (.int .i64 0), (.int .u8 0), (.float 0), (.str (bs [])), (.int .i64 0), (.bool false), (.bool false), (.bool false)] []), none⟩,
          ⟨some 10, (.mv (.t 4)), none⟩,
          ⟨none, (.store 16 (.t 2) (.t 9)), none⟩,
          ⟨some 3, (.mv (.t 10)), none⟩])
        .ret)
       .skip)))
    (.seq
     (.ops [
       ⟨some 11, (.load (some 16) (.t 1)), none⟩,
       ⟨some 12, (.call 135 [(.t 11)] .dsc []), none⟩,
       ⟨none, (.store 16 (.t 2) (.t 12)), none⟩,
       ⟨some 3, (.mv (.c (.int .i64 0))), none⟩])
     .ret)))
def desc_Complete.body : DC := desc_Complete.bodyX
def desc_Complete : FD := ⟨1, [.cell 2 (some 16), .tmp 3], desc_Complete.body⟩
/-- 128 bailiff/desc.IsAccess -/
def desc_IsAccess.bodyX : DC :=
  (.seq
   (.ops [
     ⟨some 1, (.box 1 (.t 0)), none⟩,
     ⟨some 2, (.mv (.c (.bool false))), none⟩])
   (.seq
    (.ops [
      ⟨some 3, (.faddr 0 (.t 1)), none⟩,
      ⟨some 4, (.load none (.t 3)), none⟩,
      ⟨some 5, (.bini .and (.t 4) (.c (.int .u8 12))), none⟩,
      ⟨some 6, (.bini .neq (.t 5) (.c (.int .u8 0))), none⟩,
      ⟨some 2, (.mv (.t 6)), none⟩])
    .ret))
def desc_IsAccess.body : DC := desc_IsAccess.bodyX
def desc_IsAccess : FD := ⟨1, [.tmp 2], desc_IsAccess.body⟩
/-- 129 bailiff/desc.IsData -/
def desc_IsData.bodyX : DC :=
  (.seq
   (.ops [
     ⟨some 1, (.box 1 (.t 0)), none⟩,
     ⟨some 2, (.mv (.c (.bool false))), none⟩])
   (.seq
    (.ops [
      ⟨some 3, (.faddr 0 (.t 1)), none⟩,
      ⟨some 4, (.load none (.t 3)), none⟩,
      ⟨some 5, (.bini .and (.t 4) (.c (.int .u8 3))), none⟩,
      ⟨some 6, (.bini .neq (.t 5) (.c (.int .u8 0))), none⟩,
      ⟨some 2, (.mv (.t 6)), none⟩])
    .ret))
def desc_IsData.body : DC := desc_IsData.bodyX
def desc_IsData : FD := ⟨1, [.tmp 2], desc_IsData.body⟩
/-- 130 bailiff/desc.IsPlain -/
def desc_IsPlain.bodyX : DC :=
  (.seq
   (.ops [
     ⟨some 1, (.box 1 (.t 0)), none⟩,
     ⟨some 2, (.mv (.c (.bool false))), none⟩])
   (.seq
    (.ops [
      ⟨some 3, (.faddr 0 (.t 1)), none⟩,
      ⟨some 4, (.load none (.t 3)), none⟩,
      ⟨some 5, (.bini .and (.t 4) (.c (.int .u8 15))), none⟩,
      ⟨some 6, (.bini .eql (.t 5) (.c (.int .u8 0))), none⟩,
      ⟨some 2, (.mv (.t 6)), none⟩])
    .ret))
def desc_IsPlain.body : DC := desc_IsPlain.bodyX
def desc_IsPlain : FD := ⟨1, [.tmp 2], desc_IsPlain.body⟩
/-- 131 bailiff/desc.Same -/
def desc_Same.tX0 (t0 t1 t2 t3 t4 t5 t6 t7 t8 t9 t10 t11 : DC) : DC :=
  (.ops [
    ⟨some 5, (.mv (.t 22)), none⟩])
def desc_Same.t0 : DC := desc_Same.tX0 .skip .skip .skip .skip .skip .skip .skip .skip .skip .skip .skip .skip
def desc_Same.tX1 (t0 t1 t2 t3 t4 t5 t6 t7 t8 t9 t10 t11 : DC) : DC :=
  (.ops [
    ⟨some 5, (.mv (.t 34)), none⟩])
def desc_Same.t1 : DC := desc_Same.tX1 desc_Same.t0 .skip .skip .skip .skip .skip .skip .skip .skip .skip .skip .skip
def desc_Same.tX2 (t0 t1 t2 t3 t4 t5 t6 t7 t8 t9 t10 t11 : DC) : DC :=
  (.ops [
    ⟨some 5, (.mv (.t 46)), none⟩])
def desc_Same.t2 : DC := desc_Same.tX2 desc_Same.t0 desc_Same.t1 .skip .skip .skip .skip .skip .skip .skip .skip .skip .skip
def desc_Same.tX3 (t0 t1 t2 t3 t4 t5 t6 t7 t8 t9 t10 t11 : DC) : DC :=
  (.ops [
    ⟨some 5, (.mv (.t 57)), none⟩])
def desc_Same.t3 : DC := desc_Same.tX3 desc_Same.t0 desc_Same.t1 desc_Same.t2 .skip .skip .skip .skip .skip .skip .skip .skip .skip
def desc_Same.tX4 (t0 t1 t2 t3 t4 t5 t6 t7 t8 t9 t10 t11 : DC) : DC :=
  (.ops [
    ⟨some 5, (.mv (.t 68)), none⟩])
def desc_Same.t4 : DC := desc_Same.tX4 desc_Same.t0 desc_Same.t1 desc_Same.t2 desc_Same.t3 .skip .skip .skip .skip .skip .skip .skip .skip
def desc_Same.tX5 (t0 t1 t2 t3 t4 t5 t6 t7 t8 t9 t10 t11 : DC) : DC :=
  (.ops [
    ⟨some 5, (.mv (.t 79)), none⟩])
def desc_Same.t5 : DC := desc_Same.tX5 desc_Same.t0 desc_Same.t1 desc_Same.t2 desc_Same.t3 desc_Same.t4 .skip .skip .skip .skip .skip .skip .skip
def desc_Same.tX6 (t0 t1 t2 t3 t4 t5 t6 t7 t8 t9 t10 t11 : DC) : DC :=
                 (.cond (.t 5)
                  .skip
  (.opsc [
    ⟨some 69, (.faddr 0 (.t 2)), none⟩,
    ⟨some 70, (.load none (.t 69)), none⟩,
    ⟨some 71, (.bini .and (.t 70) (.c (.int .u8 32))), none⟩,
    ⟨some 72, (.bini .neq (.t 71) (.c (.int .u8 0))), none⟩,
    ⟨some 73, (.mv (.t 72)), none⟩,
    ⟨some 74, (.faddr 15 (.t 2)), some (73, true)⟩,
    ⟨some 75, (.load none (.t 74)), some (73, true)⟩,
    ⟨some 76, (.faddr 15 (.t 3)), some (73, true)⟩,
    ⟨some 77, (.load none (.t 76)), some (73, true)⟩,
    ⟨some 78, (.eqb true (.t 75) (.t 77)), some (73, true)⟩,
    ⟨some 79, (.pick (.t 73) (.t 78) (.c (.bool false))), none⟩] [79] [] t5))
def desc_Same.t6 : DC := desc_Same.tX6 desc_Same.t0 desc_Same.t1 desc_Same.t2 desc_Same.t3 desc_Same.t4 desc_Same.t5 .skip .skip .skip .skip .skip .skip
def desc_Same.sX6 (t : DC) : DC := .kp [2, 3, 5] [2, 3] t
def desc_Same.tX7 (t0 t1 t2 t3 t4 t5 t6 t7 t8 t9 t10 t11 : DC) : DC :=
               (.cond (.t 5)
                .skip
                (.seq
  (.opsc [
    ⟨some 58, (.faddr 0 (.t 2)), none⟩,
    ⟨some 59, (.load none (.t 58)), none⟩,
    ⟨some 60, (.bini .and (.t 59) (.c (.int .u8 16))), none⟩,
    ⟨some 61, (.bini .neq (.t 60) (.c (.int .u8 0))), none⟩,
    ⟨some 62, (.mv (.t 61)), none⟩,
    ⟨some 63, (.faddr 14 (.t 2)), some (62, true)⟩,
    ⟨some 64, (.load none (.t 63)), some (62, true)⟩,
    ⟨some 65, (.faddr 14 (.t 3)), some (62, true)⟩,
    ⟨some 66, (.load none (.t 65)), some (62, true)⟩,
    ⟨some 67, (.eqb true (.t 64) (.t 66)), some (62, true)⟩,
    ⟨some 68, (.pick (.t 62) (.t 67) (.c (.bool false))), none⟩] [2, 3, 68] [2, 3] t4)
                 (desc_Same.sX6 t6)))
def desc_Same.t7 : DC := desc_Same.tX7 desc_Same.t0 desc_Same.t1 desc_Same.t2 desc_Same.t3 desc_Same.t4 desc_Same.t5 desc_Same.t6 .skip .skip .skip .skip .skip
def desc_Same.sX7 (t : DC) : DC := .kp [2, 3, 5] [2, 3] t
def desc_Same.tX8 (t0 t1 t2 t3 t4 t5 t6 t7 t8 t9 t10 t11 : DC) : DC :=
             (.cond (.t 5)
              .skip
              (.seq
  (.opsc [
    ⟨some 47, (.faddr 0 (.t 2)), none⟩,
    ⟨some 48, (.load none (.t 47)), none⟩,
    ⟨some 49, (.bini .and (.t 48) (.c (.int .u8 2))), none⟩,
    ⟨some 50, (.bini .neq (.t 49) (.c (.int .u8 0))), none⟩,
    ⟨some 51, (.mv (.t 50)), none⟩,
    ⟨some 52, (.faddr 13 (.t 2)), some (51, true)⟩,
    ⟨some 53, (.load none (.t 52)), some (51, true)⟩,
    ⟨some 54, (.faddr 13 (.t 3)), some (51, true)⟩,
    ⟨some 55, (.load none (.t 54)), some (51, true)⟩,
    ⟨some 56, (.eqb true (.t 53) (.t 55)), some (51, true)⟩,
    ⟨some 57, (.pick (.t 51) (.t 56) (.c (.bool false))), none⟩] [2, 3, 57] [2, 3] t3)
               (desc_Same.sX7 t7)))
def desc_Same.t8 : DC := desc_Same.tX8 desc_Same.t0 desc_Same.t1 desc_Same.t2 desc_Same.t3 desc_Same.t4 desc_Same.t5 desc_Same.t6 desc_Same.t7 .skip .skip .skip .skip
def desc_Same.sX8 (t : DC) : DC := .kp [2, 3, 5] [2, 3] t
def desc_Same.tX9 (t0 t1 t2 t3 t4 t5 t6 t7 t8 t9 t10 t11 : DC) : DC :=
           (.cond (.t 5)
            .skip
            (.seq
  (.opsc [
    ⟨some 35, (.faddr 0 (.t 2)), none⟩,
    ⟨some 36, (.load none (.t 35)), none⟩,
    ⟨some 37, (.bini .and (.t 36) (.c (.int .u8 8))), none⟩,
    ⟨some 38, (.bini .neq (.t 37) (.c (.int .u8 0))), none⟩,
    ⟨some 39, (.mv (.t 38)), none⟩,
    ⟨some 40, (.faddr 9 (.t 2)), some (39, true)⟩,
    ⟨some 41, (.load (some 4) (.t 40)), some (39, true)⟩,
    ⟨some 42, (.faddr 9 (.t 3)), some (39, true)⟩,
    ⟨some 43, (.load (some 4) (.t 42)), some (39, true)⟩,
    ⟨some 44, (.call 184 [(.t 41), (.t 43)] .bool []), some (39, true)⟩,
    ⟨some 45, (.not (.t 44)), some (39, true)⟩,
    ⟨some 46, (.pick (.t 39) (.t 45) (.c (.bool false))), none⟩] [2, 3, 46] [2, 3] t2)
             (desc_Same.sX8 t8)))
def desc_Same.t9 : DC := desc_Same.tX9 desc_Same.t0 desc_Same.t1 desc_Same.t2 desc_Same.t3 desc_Same.t4 desc_Same.t5 desc_Same.t6 desc_Same.t7 desc_Same.t8 .skip .skip .skip
def desc_Same.sX9 (t : DC) : DC := .kp [2, 3, 5] [2, 3] t
def desc_Same.tX10 (t0 t1 t2 t3 t4 t5 t6 t7 t8 t9 t10 t11 : DC) : DC :=
         (.cond (.t 5)
          .skip
          (.seq
  (.opsc [
    ⟨some 23, (.faddr 0 (.t 2)), none⟩,
    ⟨some 24, (.load none (.t 23)), none⟩,
    ⟨some 25, (.bini .and (.t 24) (.c (.int .u8 4))), none⟩,
    ⟨some 26, (.bini .neq (.t 25) (.c (.int .u8 0))), none⟩,
    ⟨some 27, (.mv (.t 26)), none⟩,
    ⟨some 28, (.faddr 5 (.t 2)), some (27, true)⟩,
    ⟨some 29, (.load (some 4) (.t 28)), some (27, true)⟩,
    ⟨some 30, (.faddr 5 (.t 3)), some (27, true)⟩,
    ⟨some 31, (.load (some 4) (.t 30)), some (27, true)⟩,
    ⟨some 32, (.call 184 [(.t 29), (.t 31)] .bool []), some (27, true)⟩,
    ⟨some 33, (.not (.t 32)), some (27, true)⟩,
    ⟨some 34, (.pick (.t 27) (.t 33) (.c (.bool false))), none⟩] [2, 3, 34] [2, 3] t1)
           (desc_Same.sX9 t9)))
def desc_Same.t10 : DC := desc_Same.tX10 desc_Same.t0 desc_Same.t1 desc_Same.t2 desc_Same.t3 desc_Same.t4 desc_Same.t5 desc_Same.t6 desc_Same.t7 desc_Same.t8 desc_Same.t9 .skip .skip
def desc_Same.sX10 (t : DC) : DC := .kp [2, 3, 5] [2, 3] t
def desc_Same.tX11 (t0 t1 t2 t3 t4 t5 t6 t7 t8 t9 t10 t11 : DC) : DC :=
      (.cond (.t 5)
       (.seq
        (.ops [
          ⟨some 4, (.mv (.c (.bool false))), none⟩])
        .ret)
       .skip)
def desc_Same.t11 : DC := desc_Same.tX11 desc_Same.t0 desc_Same.t1 desc_Same.t2 desc_Same.t3 desc_Same.t4 desc_Same.t5 desc_Same.t6 desc_Same.t7 desc_Same.t8 desc_Same.t9 desc_Same.t10 .skip
def desc_Same.sX11 (t : DC) : DC := .kp [5] [] t
def desc_Same.bodyX (t0 t1 t2 t3 t4 t5 t6 t7 t8 t9 t10 t11 : DC) : DC :=
  (.seq
   (.ops [
     ⟨some 2, (.box 2 (.t 0)), none⟩,
     ⟨some 3, (.box 3 (.t 1)), none⟩,
     ⟨some 4, (.mv (.c (.bool false))), none⟩])
   (.seq
    (.block 0
     (.seq
      (.seq
       (.ops [
         ⟨some 6, (.faddr 0 (.t 2)), none⟩,
         ⟨some 7, (.load none (.t 6)), none⟩,
         ⟨some 8, (.faddr 0 (.t 3)), none⟩,
         ⟨some 9, (.load none (.t 8)), none⟩,
         ⟨some 10, (.bini .neq (.t 7) (.t 9)), none⟩,
         ⟨some 5, (.mv (.t 10)), none⟩])
       (.cond (.t 5)
        .skip
        (.seq
  (.opsc [
    ⟨some 11, (.faddr 0 (.t 2)), none⟩,
    ⟨some 12, (.load none (.t 11)), none⟩,
    ⟨some 13, (.bini .and (.t 12) (.c (.int .u8 1))), none⟩,
    ⟨some 14, (.bini .neq (.t 13) (.c (.int .u8 0))), none⟩,
    ⟨some 15, (.mv (.t 14)), none⟩,
    ⟨some 16, (.faddr 1 (.t 2)), some (15, true)⟩,
    ⟨some 17, (.load (some 4) (.t 16)), some (15, true)⟩,
    ⟨some 18, (.faddr 1 (.t 3)), some (15, true)⟩,
    ⟨some 19, (.load (some 4) (.t 18)), some (15, true)⟩,
    ⟨some 20, (.call 184 [(.t 17), (.t 19)] .bool []), some (15, true)⟩,
    ⟨some 21, (.not (.t 20)), some (15, true)⟩,
    ⟨some 22, (.pick (.t 15) (.t 21) (.c (.bool false))), none⟩] [2, 3, 22] [2, 3] t0)
         (desc_Same.sX10 t10))))
      (desc_Same.sX11 t11)))
    (.seq
     (.ops [
       ⟨some 4, (.mv (.c (.bool true))), none⟩])
     .ret)))
def desc_Same.body : DC := desc_Same.bodyX desc_Same.t0 desc_Same.t1 desc_Same.t2 desc_Same.t3 desc_Same.t4 desc_Same.t5 desc_Same.t6 desc_Same.t7 desc_Same.t8 desc_Same.t9 desc_Same.t10 desc_Same.t11
def desc_Same : FD := ⟨2, [.tmp 4], desc_Same.body⟩
/-- 132 bailiff/desc.asked -/
def desc_asked.bodyX : DC :=
  (.seq
   (.ops [
     ⟨some 3, (.box 3 (.t 0)), none⟩,
     ⟨some 5, (.box 5 (.t 2)), none⟩,
     ⟨some 6, (.mv (.c (.int .i64 0))), none⟩])
   (.seq
    (.seq
     (.ops [
       ⟨some 8, (.load (some 16) (.t 3)), none⟩,
       ⟨some 9, (.call 125 [(.t 8)] (.int .i64) []), none⟩,
       ⟨some 7, (.mv (.t 9)), none⟩])
     (.seq
      (.ops [
        ⟨some 10, (.mv (.t 7)), none⟩,
        ⟨some 11, (.bini .neq (.t 10) (.c (.int .i64 0))), none⟩])
      (.cond (.t 11)
       (.seq
        (.ops [
          ⟨some 12, (.mv (.t 7)), none⟩,
          ⟨some 6, (.mv (.t 12)), none⟩])
        .ret)
       .skip)))
    (.seq
     (.seq
      (.draw [
        ⟨some 13, (.mv (.t 1)), none⟩,
        ⟨some 14, (.mv (.t 13)), none⟩,
        ⟨some 15, (.load (some 16) (.t 5)), some (14, true)⟩,
        ⟨some 16, (.call 125 [(.t 15)] (.int .i64) []), some (14, true)⟩,
        ⟨some 17, (.bini .neq (.t 16) (.c (.int .i64 0))), some (14, true)⟩,
        ⟨some 18, (.mv (.t 17)), some (14, true)⟩,
        ⟨some 19, (.faddr 0 (.t 5)), some (18, false)⟩,
        ⟨some 20, (.load none (.t 19)), some (18, false)⟩,
        ⟨some 21, (.load (some 16) (.t 5)), some (18, false)⟩,
        ⟨some 22, (.call 135 [(.t 21)] .dsc []), some (18, false)⟩,
        ⟨some 23, (.field 0 none (.t 22)), some (18, false)⟩,
        ⟨some 24, (.bini .neq (.t 20) (.t 23)), some (18, false)⟩,
        ⟨some 25, (.pick (.t 18) (.c (.bool true)) (.t 24)), some (14, true)⟩,
        ⟨some 26, (.pick (.t 14) (.t 25) (.c (.bool false))), none⟩] [[], [0], [0, 1], [0, 1, 2], [0, 1, 2, 3], [0, 1, 2, 3, 4], [0, 1, 2, 3, 4, 5], [0, 1, 2, 3, 4, 5, 6], [0, 1, 2, 3, 4, 5], [0, 1, 2, 3, 4, 5, 8], [0, 1, 2, 3, 4, 5, 8, 9], [0, 1, 2, 3, 4, 5, 6, 7, 8, 9, 10], [0, 1, 2, 3, 4, 5, 6, 7, 8, 9, 10, 11], [0, 1, 2, 3, 4, 5, 6, 7, 8, 9, 10, 11, 12]])
      (.cond (.t 26)
       (.seq
        (.ops [
          ⟨some 6, (.mv (.c (.int .i64 90))), none⟩])
        .ret)
       .skip))
     (.seq
      (.ops [
        ⟨some 6, (.mv (.c (.int .i64 0))), none⟩])
      .ret))))
def desc_asked.body : DC := desc_asked.bodyX
def desc_asked : FD := ⟨3, [.tmp 6], desc_asked.body⟩
/-- 133 bailiff/desc.called -/
def desc_called.tX0 (t0 : DC) : DC :=
  (.ops [
    ⟨some 2, (.mv (.t 13)), none⟩])
def desc_called.t0 : DC := desc_called.tX0 .skip
def desc_called.bodyX (t0 : DC) : DC :=
  (.seq
   (.ops [
     ⟨some 1, (.box 1 (.t 0)), none⟩,
     ⟨some 2, (.mv (.c (.bool false))), none⟩])
   (.seq
  (.opsc [
    ⟨some 3, (.load (some 4) (.t 1)), none⟩,
    ⟨some 4, (.call 182 [(.t 3)] .bool []), none⟩,
    ⟨some 5, (.mv (.t 4)), none⟩,
    ⟨some 6, (.faddr 0 (.t 1)), some (5, true)⟩,
    ⟨some 7, (.load none (.t 6)), some (5, true)⟩,
    ⟨some 8, (.bini .eql (.t 7) (.c (.int .u8 0))), some (5, true)⟩,
    ⟨some 9, (.mv (.t 8)), some (5, true)⟩,
    ⟨some 10, (.load (some 4) (.t 1)), some (9, false)⟩,
    ⟨some 11, (.call 180 [(.t 10)] .bool []), some (9, false)⟩,
    ⟨some 12, (.pick (.t 9) (.c (.bool true)) (.t 11)), some (5, true)⟩,
    ⟨some 13, (.pick (.t 5) (.t 12) (.c (.bool false))), none⟩] [13] [] t0)
    .ret))
def desc_called.body : DC := desc_called.bodyX desc_called.t0
def desc_called : FD := ⟨1, [.tmp 2], desc_called.body⟩
/-- 134 bailiff/desc.may -/
def desc_may.tX0 (t0 t1 t2 t3 t4 : DC) : DC :=
  (.ops [
    ⟨some 10, (.mv (.t 21)), none⟩])
def desc_may.t0 : DC := desc_may.tX0 .skip .skip .skip .skip .skip
def desc_may.tX1 (t0 t1 t2 t3 t4 : DC) : DC :=
  (.ops [
    ⟨some 4, (.mv (.t 53)), none⟩])
def desc_may.t1 : DC := desc_may.tX1 desc_may.t0 .skip .skip .skip .skip
def desc_may.tX2 (t0 t1 t2 t3 t4 : DC) : DC :=
         (.cond (.t 10)
          (.seq
           (.ops [
             ⟨some 4, (.mv (.c (.bool false))), none⟩])
           .ret)
          (.seq
           (.ops [
             ⟨some 23, (.load (some 16) (.t 2)), none⟩,
             ⟨some 24, (.call 130 [(.t 23)] .bool []), none⟩,
             ⟨some 22, (.mv (.t 24)), none⟩])
           (.cond (.t 22)
            (.seq
             (.ops [
               ⟨some 4, (.mv (.c (.bool true))), none⟩])
             .ret)
            (.seq
             (.draw [
               ⟨some 26, (.load (some 16) (.t 2)), none⟩,
               ⟨some 27, (.call 129 [(.t 26)] .bool []), none⟩,
               ⟨some 28, (.load (some 16) (.t 3)), none⟩,
               ⟨some 29, (.call 129 [(.t 28)] .bool []), none⟩,
               ⟨some 30, (.eqb true (.t 27) (.t 29)), none⟩,
               ⟨some 25, (.mv (.t 30)), none⟩] [[], [0], [], [0, 1, 2], [0, 1, 2, 3], [0, 1, 2, 3, 4]])
             (.cond (.t 25)
              (.seq
               (.ops [
                 ⟨some 4, (.mv (.c (.bool false))), none⟩])
               .ret)
              (.seq
               (.ops [
                 ⟨some 32, (.load (some 16) (.t 2)), none⟩,
                 ⟨some 33, (.call 129 [(.t 32)] .bool []), none⟩,
                 ⟨some 31, (.mv (.t 33)), none⟩])
               (.cond (.t 31)
                (.seq
  (.opsc [
    ⟨some 34, (.faddr 13 (.t 3)), none⟩,
    ⟨some 35, (.load none (.t 34)), none⟩,
    ⟨some 36, (.mv (.t 35)), none⟩,
    ⟨some 37, (.faddr 13 (.t 2)), some (36, false)⟩,
    ⟨some 38, (.load none (.t 37)), some (36, false)⟩,
    ⟨some 39, (.not (.t 38)), some (36, false)⟩,
    ⟨some 40, (.mv (.t 39)), some (36, false)⟩,
    ⟨some 41, (.faddr 0 (.t 2)), some (40, true)⟩,
    ⟨some 42, (.load none (.t 41)), some (40, true)⟩,
    ⟨some 43, (.bini .and (.t 42) (.c (.int .u8 1))), some (40, true)⟩,
    ⟨some 44, (.bini .eql (.t 43) (.c (.int .u8 0))), some (40, true)⟩,
    ⟨some 45, (.mv (.t 44)), some (40, true)⟩,
    ⟨some 46, (.faddr 1 (.t 2)), some (45, false)⟩,
    ⟨some 47, (.load (some 4) (.t 46)), some (45, false)⟩,
    ⟨some 48, (.faddr 1 (.t 3)), some (45, false)⟩,
    ⟨some 49, (.load (some 4) (.t 48)), some (45, false)⟩,
    ⟨some 50, (.call 184 [(.t 47), (.t 49)] .bool []), some (45, false)⟩,
    ⟨some 51, (.pick (.t 45) (.c (.bool true)) (.t 50)), some (40, true)⟩,
    ⟨some 52, (.pick (.t 40) (.t 51) (.c (.bool false))), some (36, false)⟩,
    ⟨some 53, (.pick (.t 36) (.c (.bool true)) (.t 52)), none⟩] [53] [] t1)
                 .ret)
                .skip)))))))
def desc_may.t2 : DC := desc_may.tX2 desc_may.t0 desc_may.t1 .skip .skip .skip
def desc_may.sX2 (t : DC) : DC := .kp [2, 3, 10] [2, 3] t
def desc_may.tX3 (t0 t1 t2 t3 t4 : DC) : DC :=
  (.ops [
    ⟨some 4, (.mv (.t 77)), none⟩])
def desc_may.t3 : DC := desc_may.tX3 desc_may.t0 desc_may.t1 desc_may.t2 .skip .skip
def desc_may.tX4 (t0 t1 t2 t3 t4 : DC) : DC :=
  (.opsc [
    ⟨some 65, (.mv (.t 64)), none⟩,
    ⟨some 66, (.faddr 0 (.t 2)), some (65, true)⟩,
    ⟨some 67, (.load none (.t 66)), some (65, true)⟩,
    ⟨some 68, (.bini .and (.t 67) (.c (.int .u8 8))), some (65, true)⟩,
    ⟨some 69, (.bini .eql (.t 68) (.c (.int .u8 0))), some (65, true)⟩,
    ⟨some 70, (.mv (.t 69)), some (65, true)⟩,
    ⟨some 71, (.faddr 9 (.t 2)), some (70, false)⟩,
    ⟨some 72, (.load (some 4) (.t 71)), some (70, false)⟩,
    ⟨some 73, (.faddr 9 (.t 3)), some (70, false)⟩,
    ⟨some 74, (.load (some 4) (.t 73)), some (70, false)⟩,
    ⟨some 75, (.call 184 [(.t 72), (.t 74)] .bool []), some (70, false)⟩,
    ⟨some 76, (.pick (.t 70) (.c (.bool true)) (.t 75)), some (65, true)⟩,
    ⟨some 77, (.pick (.t 65) (.t 76) (.c (.bool false))), none⟩] [77] [] t3)
def desc_may.t4 : DC := desc_may.tX4 desc_may.t0 desc_may.t1 desc_may.t2 desc_may.t3 .skip
def desc_may.bodyX (t0 t1 t2 t3 t4 : DC) : DC :=
  (.seq
   (.ops [
     ⟨some 2, (.box 2 (.t 0)), none⟩,
     ⟨some 3, (.box 3 (.t 1)), none⟩,
     ⟨some 4, (.mv (.c (.bool false))), none⟩])
   (.seq
    (.seq
     (.ops [
       ⟨some 5, (.faddr 15 (.t 3)), none⟩,
       ⟨some 6, (.load none (.t 5)), none⟩])
     (.cond (.t 6)
      (.seq
       (.ops [
         ⟨some 4, (.mv (.c (.bool true))), none⟩])
       .ret)
      .skip))
    (.seq
     (.block 0
      (.seq
       (.ops [
         ⟨some 8, (.faddr 15 (.t 2)), none⟩,
         ⟨some 9, (.load none (.t 8)), none⟩,
         ⟨some 7, (.mv (.t 9)), none⟩])
       (.cond (.t 7)
        (.seq
         (.ops [
           ⟨some 4, (.mv (.c (.bool false))), none⟩])
         .ret)
        (.seq
  (.opsc [
    ⟨some 11, (.faddr 0 (.t 2)), none⟩,
    ⟨some 12, (.load none (.t 11)), none⟩,
    ⟨some 13, (.bini .and (.t 12) (.c (.int .u8 16))), none⟩,
    ⟨some 14, (.bini .neq (.t 13) (.c (.int .u8 0))), none⟩,
    ⟨some 15, (.mv (.t 14)), none⟩,
    ⟨some 16, (.faddr 14 (.t 2)), some (15, true)⟩,
    ⟨some 17, (.load none (.t 16)), some (15, true)⟩,
    ⟨some 18, (.faddr 14 (.t 3)), some (15, true)⟩,
    ⟨some 19, (.load none (.t 18)), some (15, true)⟩,
    ⟨some 20, (.eqb true (.t 17) (.t 19)), some (15, true)⟩,
    ⟨some 21, (.pick (.t 15) (.t 20) (.c (.bool false))), none⟩] [2, 3, 21] [2, 3] t0)
         (desc_may.sX2 t2)))))
     (.seq
  (.opsc [
    ⟨some 54, (.faddr 0 (.t 2)), none⟩,
    ⟨some 55, (.load none (.t 54)), none⟩,
    ⟨some 56, (.bini .and (.t 55) (.c (.int .u8 4))), none⟩,
    ⟨some 57, (.bini .eql (.t 56) (.c (.int .u8 0))), none⟩,
    ⟨some 58, (.mv (.t 57)), none⟩,
    ⟨some 59, (.faddr 5 (.t 2)), some (58, false)⟩,
    ⟨some 60, (.load (some 4) (.t 59)), some (58, false)⟩,
    ⟨some 61, (.faddr 5 (.t 3)), some (58, false)⟩,
    ⟨some 62, (.load (some 4) (.t 61)), some (58, false)⟩,
    ⟨some 63, (.call 184 [(.t 60), (.t 62)] .bool []), some (58, false)⟩,
    ⟨some 64, (.pick (.t 58) (.c (.bool true)) (.t 63)), none⟩] [2, 3, 64] [2, 3] t4)
      .ret))))
def desc_may.body : DC := desc_may.bodyX desc_may.t0 desc_may.t1 desc_may.t2 desc_may.t3 desc_may.t4
def desc_may : FD := ⟨2, [.tmp 4], desc_may.body⟩
/-- 135 bailiff/desc.whole -/
def desc_whole.tX0 (t0 : DC) : DC :=
    (.seq
     (.ops [
       ⟨some 13, (.load (some 16) (.t 1)), none⟩,
       ⟨none, (.store 16 (.t 2) (.t 13)), none⟩])
     .ret)
def desc_whole.t0 : DC := desc_whole.tX0 .skip
def desc_whole.sX0 (t : DC) : DC := .kp [1, 2] [1, 2] t
def desc_whole.bodyX (t0 : DC) : DC :=
  (.seq
   (.ops [
     ⟨some 1, (.box 1 (.t 0)), none⟩,
     ⟨some 2, (.alloc 2 [(.int .u8 0), (.int .u8 0), (.float 0), (.str (bs [])), (.int .i64 0), (.int .u8 0), (.float 0), (.str (bs [])), (.int .i64 0), (.int .u8 0), (.float 0), (.str (bs [])), (.int .i64 0), (.bool false), (.bool false), (.bool false)] none), none⟩])
   (.seq
    (.seq
     (.ops [
       ⟨some 3, (.load (some 16) (.t 1)), none⟩,
       ⟨some 4, (.call 128 [(.t 3)] .bool []), none⟩])
     (.cond (.t 4)
      (.ops [
        ⟨some 5, (.faddr 0 (.t 1)), none⟩,
        ⟨some 6, (.load none (.t 5)), none⟩,
        ⟨some 7, (.bini .or (.t 6) (.c (.int .u8 60))), none⟩,
        ⟨some 8, (.faddr 0 (.t 1)), none⟩,
        ⟨none, (.store 1 (.t 8) (.t 7)), none⟩])
      (.ops [
        ⟨some 9, (.faddr 0 (.t 1)), none⟩,
        ⟨some 10, (.load none (.t 9)), none⟩,
        ⟨some 11, (.bini .or (.t 10) (.c (.int .u8 51))), none⟩,
        ⟨some 12, (.faddr 0 (.t 1)), none⟩,
        ⟨none, (.store 1 (.t 12) (.t 11)), none⟩])))
    (desc_whole.sX0 t0)))
def desc_whole.body : DC := desc_whole.bodyX desc_whole.t0
def desc_whole : FD := ⟨1, [.cell 2 (some 16)], desc_whole.body⟩
/-- 161 bailiff/num.May -/
def num_May.tX0 (t0 : DC) : DC :=
  (.ops [
    ⟨some 2, (.mv (.t 25)), none⟩])
def num_May.t0 : DC := num_May.tX0 .skip
def num_May.bodyX (t0 : DC) : DC :=
  (.seq
   (.ops [
     ⟨some 2, (.mv (.c (.bool false))), none⟩])
   (.seq
  (.opsc [
    ⟨some 3, (.mv (.t 0)), none⟩,
    ⟨some 4, (.mv (.t 0)), none⟩,
    ⟨some 5, (.binf .neq (.t 3) (.t 4)), none⟩,
    ⟨some 6, (.mv (.t 5)), none⟩,
    ⟨some 7, (.mv (.t 0)), some (6, false)⟩,
    ⟨some 8, (.call 213 [(.t 7)] .float []), some (6, false)⟩,
    ⟨some 9, (.mv (.t 0)), some (6, false)⟩,
    ⟨some 10, (.binf .eql (.t 8) (.t 9)), some (6, false)⟩,
    ⟨some 11, (.mv (.t 10)), some (6, false)⟩,
    ⟨some 12, (.mv (.t 0)), some (11, true)⟩,
    ⟨some 13, (.call 207 [(.t 12)] .float []), some (11, true)⟩,
    ⟨some 14, (.binf .leq (.t 13) (.c (.float 4845873199050653695))), some (11, true)⟩,
    ⟨some 15, (.pick (.t 11) (.t 14) (.c (.bool false))), some (6, false)⟩,
    ⟨some 16, (.mv (.t 15)), some (6, false)⟩,
    ⟨some 17, (.mv (.t 0)), some (16, true)⟩,
    ⟨some 18, (.binf .neq (.t 17) (.c (.float 0))), some (16, true)⟩,
    ⟨some 19, (.mv (.t 18)), some (16, true)⟩,
    ⟨some 20, (.mv (.t 0)), some (19, false)⟩,
    ⟨some 21, (.call 212 [(.t 20)] .bool []), some (19, false)⟩,
    ⟨some 22, (.not (.t 21)), some (19, false)⟩,
    ⟨some 23, (.pick (.t 19) (.c (.bool true)) (.t 22)), some (16, true)⟩,
    ⟨some 24, (.pick (.t 16) (.t 23) (.c (.bool false))), some (6, false)⟩,
    ⟨some 25, (.pick (.t 6) (.c (.bool true)) (.t 24)), none⟩] [25] [] t0)
    .ret))
def num_May.body : DC := num_May.bodyX num_May.t0
def num_May : FD := ⟨1, [.tmp 2], num_May.body⟩
/-- 180 bailiff/value.Calls -/
def value_Calls.tX0 (t0 : DC) : DC :=
  (.ops [
    ⟨some 2, (.mv (.t 10)), none⟩])
def value_Calls.t0 : DC := value_Calls.tX0 .skip
def value_Calls.bodyX (t0 : DC) : DC :=
  (.seq
   (.ops [
     ⟨some 1, (.box 1 (.t 0)), none⟩,
     ⟨some 2, (.mv (.c (.bool false))), none⟩])
   (.seq
  (.opsc [
    ⟨some 3, (.faddr 0 (.t 1)), none⟩,
    ⟨some 4, (.load none (.t 3)), none⟩,
    ⟨some 5, (.bini .eql (.t 4) (.c (.int .u8 7))), none⟩,
    ⟨some 6, (.mv (.t 5)), none⟩,
    ⟨some 7, (.faddr 0 (.t 1)), some (6, false)⟩,
    ⟨some 8, (.load none (.t 7)), some (6, false)⟩,
    ⟨some 9, (.bini .eql (.t 8) (.c (.int .u8 8))), some (6, false)⟩,
    ⟨some 10, (.pick (.t 6) (.c (.bool true)) (.t 9)), none⟩] [10] [] t0)
    .ret))
def value_Calls.body : DC := value_Calls.bodyX value_Calls.t0
def value_Calls : FD := ⟨1, [.tmp 2], value_Calls.body⟩
/-- 181 bailiff/value.IsObject -/
def value_IsObject.tX0 (t0 : DC) : DC :=
  (.ops [
    ⟨some 2, (.mv (.t 10)), none⟩])
def value_IsObject.t0 : DC := value_IsObject.tX0 .skip
def value_IsObject.bodyX (t0 : DC) : DC :=
  (.seq
   (.ops [
     ⟨some 1, (.box 1 (.t 0)), none⟩,
     ⟨some 2, (.mv (.c (.bool false))), none⟩])
   (.seq
  (.opsc [
    ⟨some 3, (.faddr 0 (.t 1)), none⟩,
    ⟨some 4, (.load none (.t 3)), none⟩,
    ⟨some 5, (.bini .geq (.t 4) (.c (.int .u8 6))), none⟩,
    ⟨some 6, (.mv (.t 5)), none⟩,
    ⟨some 7, (.faddr 0 (.t 1)), some (6, true)⟩,
    ⟨some 8, (.load none (.t 7)), some (6, true)⟩,
    ⟨some 9, (.bini .leq (.t 8) (.c (.int .u8 8))), some (6, true)⟩,
    ⟨some 10, (.pick (.t 6) (.t 9) (.c (.bool false))), none⟩] [10] [] t0)
    .ret))
def value_IsObject.body : DC := value_IsObject.bodyX value_IsObject.t0
def value_IsObject : FD := ⟨1, [.tmp 2], value_IsObject.body⟩
/-- 182 bailiff/value.May -/
def value_May.tX0 (t0 t1 t2 t3 t4 t5 : DC) : DC :=
  (.ops [
    ⟨some 12, (.mv (.t 11)), none⟩,
    ⟨some 13, (.faddr 2 (.t 1)), some (12, false)⟩,
    ⟨some 14, (.load none (.t 13)), some (12, false)⟩,
    ⟨some 15, (.len true (.t 14)), some (12, false)⟩,
    ⟨some 16, (.bini .gtr (.t 15) (.c (.int .i64 4096))), some (12, false)⟩,
    ⟨some 17, (.pick (.t 12) (.c (.bool true)) (.t 16)), none⟩])
def value_May.t0 : DC := value_May.tX0 .skip .skip .skip .skip .skip .skip
def value_May.tX1 (t0 t1 t2 t3 t4 t5 : DC) : DC :=
     (.cond (.t 17)
      (.seq
       (.ops [
         ⟨some 2, (.mv (.c (.bool false))), none⟩])
       .ret)
      .skip)
def value_May.t1 : DC := value_May.tX1 value_May.t0 .skip .skip .skip .skip .skip
def value_May.sX1 (t : DC) : DC := .kp [1, 17] [1] t
def value_May.tX2 (t0 t1 t2 t3 t4 t5 : DC) : DC :=
            (.cond (.t 37)
             (.seq
              (.ops [
                ⟨some 2, (.mv (.c (.bool false))), none⟩])
              .ret)
             .skip)
def value_May.t2 : DC := value_May.tX2 value_May.t0 value_May.t1 .skip .skip .skip .skip
def value_May.sX2 (t : DC) : DC := .kp [1, 3, 37] [1, 3] t
def value_May.tX3 (t0 t1 t2 t3 t4 t5 : DC) : DC :=
               (.cond (.t 48)
                (.ops [
                  ⟨some 53, (.faddr 3 (.t 3)), none⟩,
                  ⟨none, (.store 1 (.t 53) (.c (.int .i64 0))), none⟩])
                .skip)
def value_May.t3 : DC := value_May.tX3 value_May.t0 value_May.t1 value_May.t2 .skip .skip .skip
def value_May.sX3 (t : DC) : DC := .kp [1, 3, 48] [1, 3] t
def value_May.tX4 (t0 t1 t2 t3 t4 t5 : DC) : DC :=
  (.ops [
    ⟨some 2, (.mv (.t 63)), none⟩])
def value_May.t4 : DC := value_May.tX4 value_May.t0 value_May.t1 value_May.t2 value_May.t3 .skip .skip
def value_May.tX5 (t0 t1 t2 t3 t4 t5 : DC) : DC :=
      (.seq
  (.opsc [
    ⟨some 54, (.load (some 4) (.t 3)), none⟩,
    ⟨some 55, (.faddr 0 (.t 1)), none⟩,
    ⟨some 56, (.load none (.t 55)), none⟩,
    ⟨some 57, (.build [(.int .u8 0), (.float 0), (.str (bs [])), (.int .i64 0)] [((0, 1), (.t 56))]), none⟩,
    ⟨some 58, (.eqa false [0, 3, 2, 0] (.t 54) (.t 57)), none⟩,
    ⟨some 59, (.mv (.t 58)), none⟩,
    ⟨some 60, (.faddr 1 (.t 3)), some (59, true)⟩,
    ⟨some 61, (.load none (.t 60)), some (59, true)⟩,
    ⟨some 62, (.call 161 [(.t 61)] .bool []), some (59, true)⟩,
    ⟨some 63, (.pick (.t 59) (.t 62) (.c (.bool false))), none⟩] [63] [] t4)
       .ret)
def value_May.t5 : DC := value_May.tX5 value_May.t0 value_May.t1 value_May.t2 value_May.t3 value_May.t4 .skip
def value_May.sX5 (t : DC) : DC := .kp [1, 3] [1, 3] t
def value_May.bodyX (t0 t1 t2 t3 t4 t5 : DC) : DC :=
  (.seq
   (.ops [
     ⟨some 1, (.box 1 (.t 0)), none⟩,
     ⟨some 2, (.mv (.c (.bool false))), none⟩])
   (.seq
    (.seq
  (.opsc [
    ⟨some 4, (.faddr 0 (.t 1)), none⟩,
    ⟨some 5, (.load none (.t 4)), none⟩,
    ⟨some 6, (.bini .gtr (.t 5) (.c (.int .u8 8))), none⟩,
    ⟨some 7, (.mv (.t 6)), none⟩,
    ⟨some 8, (.faddr 3 (.t 1)), some (7, false)⟩,
    ⟨some 9, (.load none (.t 8)), some (7, false)⟩,
    ⟨some 10, (.bini .lss (.t 9) (.c (.int .i64 0))), some (7, false)⟩,
    ⟨some 11, (.pick (.t 7) (.c (.bool true)) (.t 10)), none⟩] [1, 11] [1] t0)
     (value_May.sX1 t1))
    (.seq
     (.ops [
       ⟨some 18, (.load (some 4) (.t 1)), none⟩,
       ⟨some 3, (.alloc 3 [(.int .u8 0), (.float 0), (.str (bs [])), (.int .i64 0)] none), none⟩,
       ⟨none, (.store 4 (.t 3) (.t 18)), none⟩])
     (.seq
      (.seq
       (.ops [
         ⟨some 19, (.faddr 0 (.t 1)), none⟩,
         ⟨some 20, (.load none (.t 19)), none⟩])
       (.block 0
        (.seq
         (.ops [
           ⟨some 22, (.bini .eql (.t 20) (.c (.int .u8 2))), none⟩,
           ⟨some 21, (.mv (.t 22)), none⟩])
         (.cond (.t 21)
          (.seq
           (.ops [
             ⟨some 23, (.faddr 1 (.t 3)), none⟩,
             ⟨none, (.store 1 (.t 23) (.c (.float 0))), none⟩])
           (.seq
            (.ops [
              ⟨some 24, (.faddr 1 (.t 1)), none⟩,
              ⟨some 25, (.load none (.t 24)), none⟩,
              ⟨some 26, (.binf .neq (.t 25) (.c (.float 4607182418800017408))), none⟩,
              ⟨some 27, (.mv (.t 26)), none⟩,
              ⟨some 28, (.faddr 1 (.t 1)), some (27, true)⟩,
              ⟨some 29, (.load none (.t 28)), some (27, true)⟩,
              ⟨some 30, (.binf .neq (.t 29) (.c (.float 0))), some (27, true)⟩,
              ⟨some 31, (.mv (.t 30)), some (27, true)⟩,
              ⟨some 32, (.faddr 1 (.t 1)), some (31, false)⟩,
              ⟨some 33, (.load none (.t 32)), some (31, false)⟩,
              ⟨some 34, (.call 161 [(.t 33)] .bool []), some (31, false)⟩,
              ⟨some 35, (.not (.t 34)), some (31, false)⟩,
              ⟨some 36, (.pick (.t 31) (.c (.bool true)) (.t 35)), some (27, true)⟩,
              ⟨some 37, (.pick (.t 27) (.t 36) (.c (.bool false))), none⟩])
            (value_May.sX2 t2)))
          (.seq
           (.ops [
             ⟨some 39, (.bini .eql (.t 20) (.c (.int .u8 3))), none⟩,
             ⟨some 38, (.mv (.t 39)), none⟩])
           (.cond (.t 38)
            (.seq
             (.ops [
               ⟨some 40, (.faddr 1 (.t 3)), none⟩,
               ⟨none, (.store 1 (.t 40) (.c (.float 0))), none⟩])
             (.seq
              (.ops [
                ⟨some 41, (.faddr 1 (.t 1)), none⟩,
                ⟨some 42, (.load none (.t 41)), none⟩,
                ⟨some 43, (.call 161 [(.t 42)] .bool []), none⟩,
                ⟨some 44, (.not (.t 43)), none⟩])
              (.cond (.t 44)
               (.seq
                (.ops [
                  ⟨some 2, (.mv (.c (.bool false))), none⟩])
                .ret)
               .skip)))
            (.seq
             (.ops [
               ⟨some 46, (.bini .eql (.t 20) (.c (.int .u8 4))), none⟩,
               ⟨some 45, (.mv (.t 46)), none⟩])
             (.cond (.t 45)
              (.ops [
                ⟨some 47, (.faddr 2 (.t 3)), none⟩,
                ⟨none, (.store 1 (.t 47) (.c (.str (bs [])))), none⟩])
              (.seq
               (.seq
                (.ops [
                  ⟨some 49, (.bini .eql (.t 20) (.c (.int .u8 5))), none⟩,
                  ⟨some 48, (.mv (.t 49)), none⟩])
                (.cond (.t 48)
                 .skip
                 (.seq
                  (.ops [
                    ⟨some 50, (.bini .eql (.t 20) (.c (.int .u8 6))), none⟩,
                    ⟨some 48, (.mv (.t 50)), none⟩])
                  (.cond (.t 48)
                   .skip
                   (.seq
                    (.ops [
                      ⟨some 51, (.bini .eql (.t 20) (.c (.int .u8 7))), none⟩,
                      ⟨some 48, (.mv (.t 51)), none⟩])
                    (.cond (.t 48)
                     .skip
                     (.ops [
                       ⟨some 52, (.bini .eql (.t 20) (.c (.int .u8 8))), none⟩,
                       ⟨some 48, (.mv (.t 52)), none⟩])))))))
               (value_May.sX3 t3))))))))))
      (value_May.sX5 t5)))))
def value_May.body : DC := value_May.bodyX value_May.t0 value_May.t1 value_May.t2 value_May.t3 value_May.t4 value_May.t5
def value_May : FD := ⟨1, [.tmp 2], value_May.body⟩
/-- 183 bailiff/value.Num -/
def value_Num.bodyX : DC :=
  (.seq
   (.ops [
     ⟨some 2, (.alloc 2 [(.int .u8 0), (.float 0), (.str (bs [])), (.int .i64 0)] none), none⟩])
   (.seq
    (.ops [
      ⟨some 3, (.mv (.t 0)), none⟩,
      ⟨some 4, (.build [(.int .u8 0), (.float 0), (.str (bs [])), (.int .i64 0)] [((0, 1), (.c (.int .u8 3))), ((1, 1), (.t 3))]), none⟩,
      ⟨none, (.store 4 (.t 2) (.t 4)), none⟩])
    .ret))
def value_Num.body : DC := value_Num.bodyX
def value_Num : FD := ⟨1, [.cell 2 (some 4)], value_Num.body⟩
/-- 184 bailiff/value.Same -/
def value_Same.tX0 (t0 t1 : DC) : DC :=
  (.ops [
    ⟨some 13, (.mv (.t 12)), none⟩,
    ⟨some 14, (.faddr 1 (.t 2)), some (13, true)⟩,
    ⟨some 15, (.load none (.t 14)), some (13, true)⟩,
    ⟨some 16, (.faddr 1 (.t 2)), some (13, true)⟩,
    ⟨some 17, (.load none (.t 16)), some (13, true)⟩,
    ⟨some 18, (.binf .neq (.t 15) (.t 17)), some (13, true)⟩,
    ⟨some 19, (.pick (.t 13) (.t 18) (.c (.bool false))), none⟩])
def value_Same.t0 : DC := value_Same.tX0 .skip .skip
def value_Same.tX1 (t0 t1 : DC) : DC :=
     (.cond (.t 19)
      (.seq
       (.ops [
         ⟨some 20, (.faddr 1 (.t 3)), none⟩,
         ⟨some 21, (.load none (.t 20)), none⟩,
         ⟨some 22, (.faddr 1 (.t 3)), none⟩,
         ⟨some 23, (.load none (.t 22)), none⟩,
         ⟨some 24, (.binf .neq (.t 21) (.t 23)), none⟩,
         ⟨some 4, (.mv (.t 24)), none⟩])
       .ret)
      .skip)
def value_Same.t1 : DC := value_Same.tX1 value_Same.t0 .skip
def value_Same.sX1 (t : DC) : DC := .kp [2, 3, 19] [2, 3] t
def value_Same.bodyX (t0 t1 : DC) : DC :=
  (.seq
   (.ops [
     ⟨some 2, (.box 2 (.t 0)), none⟩,
     ⟨some 3, (.box 3 (.t 1)), none⟩,
     ⟨some 4, (.mv (.c (.bool false))), none⟩])
   (.seq
    (.seq
  (.opsc [
    ⟨some 5, (.faddr 0 (.t 2)), none⟩,
    ⟨some 6, (.load none (.t 5)), none⟩,
    ⟨some 7, (.bini .eql (.t 6) (.c (.int .u8 3))), none⟩,
    ⟨some 8, (.mv (.t 7)), none⟩,
    ⟨some 9, (.faddr 0 (.t 3)), some (8, true)⟩,
    ⟨some 10, (.load none (.t 9)), some (8, true)⟩,
    ⟨some 11, (.bini .eql (.t 10) (.c (.int .u8 3))), some (8, true)⟩,
    ⟨some 12, (.pick (.t 8) (.t 11) (.c (.bool false))), none⟩] [2, 3, 12] [2, 3] t0)
     (value_Same.sX1 t1))
    (.seq
     (.ops [
       ⟨some 25, (.load (some 4) (.t 2)), none⟩,
       ⟨some 26, (.load (some 4) (.t 3)), none⟩,
       ⟨some 27, (.call 186 [(.t 25), (.t 26)] .bool []), none⟩,
       ⟨some 4, (.mv (.t 27)), none⟩])
     .ret)))
def value_Same.body : DC := value_Same.bodyX value_Same.t0 value_Same.t1
def value_Same : FD := ⟨2, [.tmp 4], value_Same.body⟩
/-- 186 bailiff/value.Strict -/
def value_Strict.tX0 (t0 t1 t2 t3 : DC) : DC :=
  (.ops [
    ⟨some 5, (.mv (.t 11)), none⟩])
def value_Strict.t0 : DC := value_Strict.tX0 .skip .skip .skip .skip
def value_Strict.tX1 (t0 t1 t2 t3 : DC) : DC :=
      (.cond (.t 5)
       (.seq
        (.ops [
          ⟨some 12, (.faddr 3 (.t 2)), none⟩,
          ⟨some 13, (.load none (.t 12)), none⟩,
          ⟨some 14, (.faddr 3 (.t 3)), none⟩,
          ⟨some 15, (.load none (.t 14)), none⟩,
          ⟨some 16, (.bini .eql (.t 13) (.t 15)), none⟩,
          ⟨some 4, (.mv (.t 16)), none⟩])
        .ret)
       (.seq
        (.ops [
          ⟨some 18, (.faddr 0 (.t 2)), none⟩,
          ⟨some 19, (.load none (.t 18)), none⟩,
          ⟨some 20, (.faddr 0 (.t 3)), none⟩,
          ⟨some 21, (.load none (.t 20)), none⟩,
          ⟨some 22, (.bini .neq (.t 19) (.t 21)), none⟩,
          ⟨some 17, (.mv (.t 22)), none⟩])
        (.cond (.t 17)
         (.seq
          (.ops [
            ⟨some 4, (.mv (.c (.bool false))), none⟩])
          .ret)
         .skip)))
def value_Strict.t1 : DC := value_Strict.tX1 value_Strict.t0 .skip .skip .skip
def value_Strict.sX1 (t : DC) : DC := .kp [2, 3, 5] [2, 3] t
def value_Strict.tX2 (t0 t1 t2 t3 : DC) : DC :=
          (.cond (.t 28)
           (.seq
            (.ops [
              ⟨some 31, (.faddr 1 (.t 2)), none⟩,
              ⟨some 32, (.load none (.t 31)), none⟩,
              ⟨some 33, (.faddr 1 (.t 3)), none⟩,
              ⟨some 34, (.load none (.t 33)), none⟩,
              ⟨some 35, (.binf .eql (.t 32) (.t 34)), none⟩,
              ⟨some 4, (.mv (.t 35)), none⟩])
            .ret)
           (.seq
            (.ops [
              ⟨some 37, (.bini .eql (.t 24) (.c (.int .u8 4))), none⟩,
              ⟨some 36, (.mv (.t 37)), none⟩])
            (.cond (.t 36)
             (.seq
              (.ops [
                ⟨some 38, (.faddr 2 (.t 2)), none⟩,
                ⟨some 39, (.load none (.t 38)), none⟩,
                ⟨some 40, (.faddr 2 (.t 3)), none⟩,
                ⟨some 41, (.load none (.t 40)), none⟩,
                ⟨some 42, (.bins .eql (.t 39) (.t 41)), none⟩,
                ⟨some 4, (.mv (.t 42)), none⟩])
              .ret)
             (.seq
              (.ops [
                ⟨some 44, (.bini .eql (.t 24) (.c (.int .u8 5))), none⟩,
                ⟨some 43, (.mv (.t 44)), none⟩])
              (.cond (.t 43)
               (.seq
                (.ops [
                  ⟨some 45, (.faddr 3 (.t 2)), none⟩,
                  ⟨some 46, (.load none (.t 45)), none⟩,
                  ⟨some 47, (.faddr 3 (.t 3)), none⟩,
                  ⟨some 48, (.load none (.t 47)), none⟩,
                  ⟨some 49, (.bini .eql (.t 46) (.t 48)), none⟩,
                  ⟨some 4, (.mv (.t 49)), none⟩])
                .ret)
               .skip)))))
def value_Strict.t2 : DC := value_Strict.tX2 value_Strict.t0 value_Strict.t1 .skip .skip
def value_Strict.sX2 (t : DC) : DC := .kp [2, 3, 24, 28] [2, 3] t
def value_Strict.tX3 (t0 t1 t2 t3 : DC) : DC :=
        (.cond (.t 25)
         (.seq
          (.ops [
            ⟨some 4, (.mv (.c (.bool true))), none⟩])
          .ret)
         (.seq
          (.seq
           (.ops [
             ⟨some 29, (.bini .eql (.t 24) (.c (.int .u8 2))), none⟩,
             ⟨some 28, (.mv (.t 29)), none⟩])
           (.cond (.t 28)
            .skip
            (.ops [
              ⟨some 30, (.bini .eql (.t 24) (.c (.int .u8 3))), none⟩,
              ⟨some 28, (.mv (.t 30)), none⟩])))
          (value_Strict.sX2 t2)))
def value_Strict.t3 : DC := value_Strict.tX3 value_Strict.t0 value_Strict.t1 value_Strict.t2 .skip
def value_Strict.sX3 (t : DC) : DC := .kp [2, 3, 24, 25] [2, 3] t
def value_Strict.bodyX (t0 t1 t2 t3 : DC) : DC :=
  (.seq
   (.ops [
     ⟨some 2, (.box 2 (.t 0)), none⟩,
     ⟨some 3, (.box 3 (.t 1)), none⟩,
     ⟨some 4, (.mv (.c (.bool false))), none⟩])
   (.seq
    (.block 0
     (.seq
  (.opsc [
    ⟨some 6, (.load (some 4) (.t 2)), none⟩,
    ⟨some 7, (.call 181 [(.t 6)] .bool []), none⟩,
    ⟨some 8, (.mv (.t 7)), none⟩,
    ⟨some 9, (.load (some 4) (.t 3)), some (8, true)⟩,
    ⟨some 10, (.call 181 [(.t 9)] .bool []), some (8, true)⟩,
    ⟨some 11, (.pick (.t 8) (.t 10) (.c (.bool false))), none⟩] [2, 3, 11] [2, 3] t0)
      (value_Strict.sX1 t1)))
    (.seq
     (.seq
      (.ops [
        ⟨some 23, (.faddr 0 (.t 2)), none⟩,
        ⟨some 24, (.load none (.t 23)), none⟩])
      (.block 1
       (.seq
        (.seq
         (.ops [
           ⟨some 26, (.bini .eql (.t 24) (.c (.int .u8 0))), none⟩,
           ⟨some 25, (.mv (.t 26)), none⟩])
         (.cond (.t 25)
          .skip
          (.ops [
            ⟨some 27, (.bini .eql (.t 24) (.c (.int .u8 1))), none⟩,
            ⟨some 25, (.mv (.t 27)), none⟩])))
        (value_Strict.sX3 t3))))
     (.seq
      (.ops [
        ⟨some 4, (.mv (.c (.bool false))), none⟩])
      .ret))))
def value_Strict.body : DC := value_Strict.bodyX value_Strict.t0 value_Strict.t1 value_Strict.t2 value_Strict.t3
def value_Strict : FD := ⟨2, [.tmp 4], value_Strict.body⟩
/-- 207 math.Abs -/
def math_Abs.bodyX : DC :=
  (.seq
   (.ops [
     ⟨some 2, (.mv (.c (.float 0))), none⟩])
   (.seq
    (.ops [
      ⟨some 3, (.mv (.t 0)), none⟩,
      ⟨some 4, (.call 209 [(.t 3)] (.int .u64) []), none⟩,
      ⟨some 5, (.bini .andNot (.t 4) (.c (.int .u64 9223372036854775808))), none⟩,
      ⟨some 6, (.call 210 [(.t 5)] .float []), none⟩,
      ⟨some 2, (.mv (.t 6)), none⟩])
    .ret))
def math_Abs.body : DC := math_Abs.bodyX
def math_Abs : FD := ⟨1, [.tmp 2], math_Abs.body⟩
/-- 208 math.Copysign -/
def math_Copysign.bodyX : DC :=
  (.seq
   (.ops [
     ⟨some 4, (.mv (.c (.float 0))), none⟩])
   (.seq
    (.ops [
      ⟨some 5, (.mv (.t 0)), none⟩,
      ⟨some 6, (.call 209 [(.t 5)] (.int .u64) []), none⟩,
      ⟨some 7, (.bini .andNot (.t 6) (.c (.int .u64 9223372036854775808))), none⟩,
      ⟨some 8, (.mv (.t 1)), none⟩,
      ⟨some 9, (.call 209 [(.t 8)] (.int .u64) []), none⟩,
      ⟨some 10, (.bini .and (.t 9) (.c (.int .u64 9223372036854775808))), none⟩,
      ⟨some 11, (.bini .or (.t 7) (.t 10)), none⟩,
      ⟨some 12, (.call 210 [(.t 11)] .float []), none⟩,
      ⟨some 4, (.mv (.t 12)), none⟩])
    .ret))
def math_Copysign.body : DC := math_Copysign.bodyX
def math_Copysign : FD := ⟨2, [.tmp 4], math_Copysign.body⟩
/-- 212 math.Signbit -/
def math_Signbit.bodyX : DC :=
  (.seq
   (.ops [
     ⟨some 2, (.mv (.c (.bool false))), none⟩])
   (.seq
    (.ops [
      ⟨some 3, (.mv (.t 0)), none⟩,
      ⟨some 4, (.call 209 [(.t 3)] (.int .u64) []), none⟩,
      ⟨some 5, (.conv .i64 (.t 4)), none⟩,
      ⟨some 6, (.bini .lss (.t 5) (.c (.int .i64 0))), none⟩,
      ⟨some 2, (.mv (.t 6)), none⟩])
    .ret))
def math_Signbit.body : DC := math_Signbit.bodyX
def math_Signbit : FD := ⟨1, [.tmp 2], math_Signbit.body⟩
/-- 213 math.Trunc -/
def math_Trunc.bodyX : DC :=
  (.seq
   (.ops [
     ⟨some 2, (.mv (.c (.float 0))), none⟩])
   (.seq
    (.cond (.c (.bool true))
     (.seq
      (.ops [
        ⟨some 3, (.mv (.t 0)), none⟩,
        ⟨some 4, (.call 214 [(.t 3)] .float []), none⟩,
        ⟨some 2, (.mv (.t 4)), none⟩])
      .ret)
     .skip)
    (.seq
     (.ops [
       ⟨some 5, (.mv (.t 0)), none⟩,
       ⟨some 6, (.call 215 [(.t 5)] .float []), none⟩,
       ⟨some 2, (.mv (.t 6)), none⟩])
     .ret)))
def math_Trunc.body : DC := math_Trunc.bodyX
def math_Trunc : FD := ⟨1, [.tmp 2], math_Trunc.body⟩
/-- 215 math.trunc -/
def math_trunc.tX0 (t0 : DC) : DC :=
       (.seq
        (.ops [
          ⟨some 24, (.mv (.t 3)), none⟩,
          ⟨some 25, (.call 210 [(.t 24)] .float []), none⟩,
          ⟨some 2, (.mv (.t 25)), none⟩])
        .ret)
def math_trunc.t0 : DC := math_trunc.tX0 .skip
def math_trunc.sX0 (t : DC) : DC := .kp [3] [] t
def math_trunc.bodyX (t0 : DC) : DC :=
  (.seq
   (.ops [
     ⟨some 2, (.mv (.c (.float 0))), none⟩])
   (.seq
    (.seq
     (.ops [
       ⟨some 5, (.mv (.t 0)), none⟩,
       ⟨some 6, (.call 207 [(.t 5)] .float []), none⟩,
       ⟨some 7, (.binf .lss (.t 6) (.c (.float 4607182418800017408))), none⟩])
     (.cond (.t 7)
      (.seq
       (.ops [
         ⟨some 8, (.mv (.t 0)), none⟩,
         ⟨some 9, (.call 208 [(.c (.float 0)), (.t 8)] .float []), none⟩,
         ⟨some 2, (.mv (.t 9)), none⟩])
       .ret)
      .skip))
    (.seq
     (.ops [
       ⟨some 10, (.mv (.t 0)), none⟩,
       ⟨some 11, (.call 209 [(.t 10)] (.int .u64) []), none⟩,
       ⟨some 3, (.mv (.t 11)), none⟩])
     (.seq
      (.ops [
        ⟨some 12, (.mv (.t 3)), none⟩,
        ⟨some 13, (.bini .shr (.t 12) (.c (.int .u64 52))), none⟩,
        ⟨some 14, (.bini .and (.t 13) (.c (.int .u64 2047))), none⟩,
        ⟨some 15, (.bini .sub (.t 14) (.c (.int .u64 1023))), none⟩,
        ⟨some 4, (.mv (.t 15)), none⟩])
      (.seq
       (.seq
        (.ops [
          ⟨some 16, (.mv (.t 4)), none⟩,
          ⟨some 17, (.bini .lss (.t 16) (.c (.int .u64 52))), none⟩])
        (.cond (.t 17)
         (.ops [
           ⟨some 18, (.mv (.t 3)), none⟩,
           ⟨some 19, (.mv (.t 4)), none⟩,
           ⟨some 20, (.bini .sub (.c (.int .u64 52)) (.t 19)), none⟩,
           ⟨some 21, (.bini .shl (.c (.int .u64 1)) (.t 20)), none⟩,
           ⟨some 22, (.bini .sub (.t 21) (.c (.int .u64 1))), none⟩,
           ⟨some 23, (.bini .andNot (.t 18) (.t 22)), none⟩,
           ⟨some 3, (.mv (.t 23)), none⟩])
         .skip))
       (math_trunc.sX0 t0))))))
def math_trunc.body : DC := math_trunc.bodyX math_trunc.t0
def math_trunc : FD := ⟨1, [.tmp 2], math_trunc.body⟩
end C
end Bz
