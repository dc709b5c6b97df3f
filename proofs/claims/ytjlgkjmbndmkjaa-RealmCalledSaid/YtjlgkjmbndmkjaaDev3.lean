/- The resolved code of the functions, printed by gen.py. -/
import Derived.Test.YtjlgkjmbndmkjaaDev2c
set_option linter.all false
set_option maxRecDepth 100000
namespace Bz
open Go
def bs (l : List UInt8) : ByteArray := ⟨l.toArray⟩
namespace C
/-- 23 bailiff/bailifflaw24.RealmCalled -/
def bailifflaw24_RealmCalled.tX0 (t0 t1 t2 t3 t4 t5 : DC) : DC :=
  (.ops [
    ⟨some 52, (.mv (.t 51)), none⟩,
    ⟨some 53, (.mv (.t 10)), some (52, false)⟩,
    ⟨some 54, (.mv (.t 12)), some (52, false)⟩,
    ⟨some 55, (.eqb true (.t 53) (.t 54)), some (52, false)⟩,
    ⟨some 56, (.pick (.t 52) (.c (.bool true)) (.t 55)), none⟩])
def bailifflaw24_RealmCalled.t0 : DC := bailifflaw24_RealmCalled.tX0 .skip .skip .skip .skip .skip .skip
def bailifflaw24_RealmCalled.tX1 (t0 t1 t2 t3 t4 t5 : DC) : DC :=
  (.opsc [
    ⟨some 47, (.mv (.t 46)), none⟩,
    ⟨some 48, (.mv (.t 9)), some (47, false)⟩,
    ⟨some 49, (.mv (.t 11)), some (47, false)⟩,
    ⟨some 50, (.bini .neq (.t 48) (.t 49)), some (47, false)⟩,
    ⟨some 51, (.pick (.t 47) (.c (.bool true)) (.t 50)), none⟩] [10, 12, 51] [] t0)
def bailifflaw24_RealmCalled.t1 : DC := bailifflaw24_RealmCalled.tX1 bailifflaw24_RealmCalled.t0 .skip .skip .skip .skip .skip
def bailifflaw24_RealmCalled.tX2 (t0 t1 t2 t3 t4 t5 : DC) : DC :=
         (.cond (.t 56)
          (.seq
           (.ops [
             ⟨some 4, (.mv (.c (.bool false))), none⟩])
           .ret)
          .skip)
def bailifflaw24_RealmCalled.t2 : DC := bailifflaw24_RealmCalled.tX2 bailifflaw24_RealmCalled.t0 bailifflaw24_RealmCalled.t1 .skip .skip .skip .skip
def bailifflaw24_RealmCalled.sX2 (t : DC) : DC := .kp [56] [] t
def bailifflaw24_RealmCalled.tX3 (t0 t1 t2 t3 t4 t5 : DC) : DC :=
            (.cond (.t 76)
             (.seq
              (.ops [
                ⟨some 4, (.mv (.c (.bool false))), none⟩])
              .ret)
             .skip)
def bailifflaw24_RealmCalled.t3 : DC := bailifflaw24_RealmCalled.tX3 bailifflaw24_RealmCalled.t0 bailifflaw24_RealmCalled.t1 bailifflaw24_RealmCalled.t2 .skip .skip .skip
def bailifflaw24_RealmCalled.sX3 (t : DC) : DC := .kp [13, 14, 15, 16, 76] [] t
def bailifflaw24_RealmCalled.bX0 (t0 t1 t2 t3 t4 t5 : DC) : DC :=
  (.seq
   (.seq
    (.ops [
      ⟨some 77, (.mv (.t 17)), none⟩,
      ⟨some 78, (.mv (.t 15)), none⟩,
      ⟨some 79, (.len false (.t 78)), none⟩,
      ⟨some 80, (.bini .lss (.t 77) (.t 79)), none⟩])
    (.cond (.t 80)
     .skip
     (.exit 0)))
   (.seq
    (.block 1
     (.seq
      (.draw [
        ⟨some 83, (.mv (.t 13)), none⟩,
        ⟨some 84, (.mv (.t 17)), none⟩,
        ⟨some 85, (.iaddr false 0 1 (.t 83) (.t 84)), none⟩,
        ⟨some 86, (.load none (.t 85)), none⟩,
        ⟨some 87, (.mv (.t 15)), none⟩,
        ⟨some 88, (.mv (.t 17)), none⟩,
        ⟨some 89, (.iaddr false 0 1 (.t 87) (.t 88)), none⟩,
        ⟨some 90, (.load none (.t 89)), none⟩,
        ⟨some 91, (.bins .neq (.t 86) (.t 90)), none⟩,
        ⟨some 92, (.mv (.t 91)), none⟩,
        ⟨some 93, (.mv (.t 14)), some (92, false)⟩,
        ⟨some 94, (.mv (.t 17)), some (92, false)⟩,
        ⟨some 95, (.iaddr false 0 4 (.t 93) (.t 94)), some (92, false)⟩,
        ⟨some 96, (.load (some 4) (.t 95)), some (92, false)⟩,
        ⟨some 97, (.mv (.t 16)), some (92, false)⟩,
        ⟨some 98, (.mv (.t 17)), some (92, false)⟩,
        ⟨some 99, (.iaddr false 0 4 (.t 97) (.t 98)), some (92, false)⟩,
        ⟨some 100, (.load (some 4) (.t 99)), some (92, false)⟩,
        ⟨some 101, (.call 45 [(.t 96), (.t 100)] .bool []), some (92, false)⟩,
        ⟨some 102, (.not (.t 101)), some (92, false)⟩,
        ⟨some 103, (.pick (.t 92) (.c (.bool true)) (.t 102)), none⟩] [[], [], [0, 1], [0, 1, 2], [], [], [4, 5], [4, 5, 6], [0, 1, 2, 3, 4, 5, 6, 7], [0, 1, 2, 3, 4, 5, 6, 7, 8], [0, 1, 2, 3, 4, 5, 6, 7, 8, 9], [0, 1, 2, 3, 4, 5, 6, 7, 8, 9], [0, 1, 2, 3, 4, 5, 6, 7, 8, 9, 10, 11], [0, 1, 2, 3, 4, 5, 6, 7, 8, 9, 10, 11, 12], [0, 1, 2, 3, 4, 5, 6, 7, 8, 9], [0, 1, 2, 3, 4, 5, 6, 7, 8, 9], [0, 1, 2, 3, 4, 5, 6, 7, 8, 9, 14, 15], [0, 1, 2, 3, 4, 5, 6, 7, 8, 9, 14, 15, 16], [0, 1, 2, 3, 4, 5, 6, 7, 8, 9, 10, 11, 12, 13, 14, 15, 16, 17], [0, 1, 2, 3, 4, 5, 6, 7, 8, 9, 10, 11, 12, 13, 14, 15, 16, 17, 18], [0, 1, 2, 3, 4, 5, 6, 7, 8, 9, 10, 11, 12, 13, 14, 15, 16, 17, 18, 19]])
      (.cond (.t 103)
       (.seq
        (.ops [
          ⟨some 4, (.mv (.c (.bool false))), none⟩])
        .ret)
       .skip)))
    (.ops [
      ⟨some 81, (.mv (.t 17)), none⟩,
      ⟨some 82, (.bini .add (.t 81) (.c (.int .i64 1))), none⟩,
      ⟨some 17, (.mv (.t 82)), none⟩])))
def bailifflaw24_RealmCalled.tX4 (t0 t1 t2 t3 t4 t5 : DC) : DC :=
  (.ops [
    ⟨some 4, (.mv (.t 113)), none⟩])
def bailifflaw24_RealmCalled.t4 : DC := bailifflaw24_RealmCalled.tX4 bailifflaw24_RealmCalled.t0 bailifflaw24_RealmCalled.t1 bailifflaw24_RealmCalled.t2 bailifflaw24_RealmCalled.t3 .skip .skip
def bailifflaw24_RealmCalled.tX5 (t0 t1 t2 t3 t4 t5 : DC) : DC :=
            (.seq
             (.ops [
               ⟨some 104, (.call 166 [] (.lst false .str) []), none⟩,
               ⟨some 18, (.mv (.t 104)), none⟩])
             (.seq
  (.opsc [
    ⟨some 105, (.mv (.t 18)), none⟩,
    ⟨some 106, (.len false (.t 105)), none⟩,
    ⟨some 107, (.bini .eql (.t 106) (.c (.int .i64 1))), none⟩,
    ⟨some 108, (.mv (.t 107)), none⟩,
    ⟨some 109, (.mv (.t 18)), some (108, true)⟩,
    ⟨some 110, (.iaddr false 0 1 (.t 109) (.c (.int .i64 0))), some (108, true)⟩,
    ⟨some 111, (.load none (.t 110)), some (108, true)⟩,
    ⟨some 112, (.bins .eql (.t 111) (.c (.str (bs [116, 111, 80, 114, 105, 109, 105, 116, 105, 118, 101])))), some (108, true)⟩,
    ⟨some 113, (.pick (.t 108) (.t 112) (.c (.bool false))), none⟩] [113] [] t4)
              .ret))
def bailifflaw24_RealmCalled.t5 : DC := bailifflaw24_RealmCalled.tX5 bailifflaw24_RealmCalled.t0 bailifflaw24_RealmCalled.t1 bailifflaw24_RealmCalled.t2 bailifflaw24_RealmCalled.t3 bailifflaw24_RealmCalled.t4 .skip
def bailifflaw24_RealmCalled.sX5 (t : DC) : DC := .kp [] [] t
def bailifflaw24_RealmCalled.bodyX (t0 t1 t2 t3 t4 t5 : DC) : DC :=
  (.seq
   (.ops [
     ⟨some 4, (.mv (.c (.bool false))), none⟩])
   (.seq
    (.ops [
      ⟨some 20, (.mv (.t 0)), none⟩,
      ⟨some 21, (.call 163 [(.t 20)] (.p2 .str .bool) []), none⟩,
      ⟨some 19, (.mv (.t 21)), none⟩,
      ⟨some 22, (.ext (.t 19) 0), none⟩,
      ⟨some 23, (.ext (.t 19) 1), none⟩,
      ⟨some 5, (.mv (.t 22)), none⟩,
      ⟨some 6, (.mv (.t 23)), none⟩])
    (.seq
     (.ops [
       ⟨some 25, (.mv (.t 0)), none⟩,
       ⟨some 26, (.call 97 [(.t 25)] (.p2 .str .bool) []), none⟩,
       ⟨some 24, (.mv (.t 26)), none⟩,
       ⟨some 27, (.ext (.t 24) 0), none⟩,
       ⟨some 28, (.ext (.t 24) 1), none⟩,
       ⟨some 7, (.mv (.t 27)), none⟩,
       ⟨some 8, (.mv (.t 28)), none⟩])
     (.seq
      (.ops [
        ⟨some 30, (.mv (.t 1)), none⟩,
        ⟨some 31, (.call 165 [(.t 30)] (.p2 (.int .i64) .bool) []), none⟩,
        ⟨some 29, (.mv (.t 31)), none⟩,
        ⟨some 32, (.ext (.t 29) 0), none⟩,
        ⟨some 33, (.ext (.t 29) 1), none⟩,
        ⟨some 9, (.mv (.t 32)), none⟩,
        ⟨some 10, (.mv (.t 33)), none⟩])
      (.seq
       (.ops [
         ⟨some 35, (.mv (.t 1)), none⟩,
         ⟨some 36, (.call 99 [(.t 35)] (.p2 (.int .i64) .bool) []), none⟩,
         ⟨some 34, (.mv (.t 36)), none⟩,
         ⟨some 37, (.ext (.t 34) 0), none⟩,
         ⟨some 38, (.ext (.t 34) 1), none⟩,
         ⟨some 11, (.mv (.t 37)), none⟩,
         ⟨some 12, (.mv (.t 38)), none⟩])
       (.seq
        (.seq
  (.opsc [
    ⟨some 39, (.mv (.t 5)), none⟩,
    ⟨some 40, (.mv (.t 7)), none⟩,
    ⟨some 41, (.bins .neq (.t 39) (.t 40)), none⟩,
    ⟨some 42, (.mv (.t 41)), none⟩,
    ⟨some 43, (.mv (.t 6)), some (42, false)⟩,
    ⟨some 44, (.mv (.t 8)), some (42, false)⟩,
    ⟨some 45, (.eqb true (.t 43) (.t 44)), some (42, false)⟩,
    ⟨some 46, (.pick (.t 42) (.c (.bool true)) (.t 45)), none⟩] [9, 10, 11, 12, 46] [] t1)
         (bailifflaw24_RealmCalled.sX2 t2))
        (.seq
         (.ops [
           ⟨some 58, (.call 162 [] (.p2 (.lst false .str) (.lst false .val)) []), none⟩,
           ⟨some 57, (.mv (.t 58)), none⟩,
           ⟨some 59, (.ext (.t 57) 0), none⟩,
           ⟨some 60, (.ext (.t 57) 1), none⟩,
           ⟨some 13, (.mv (.t 59)), none⟩,
           ⟨some 14, (.mv (.t 60)), none⟩])
         (.seq
          (.ops [
            ⟨some 62, (.call 96 [] (.p2 (.lst false .str) (.lst false .val)) []), none⟩,
            ⟨some 61, (.mv (.t 62)), none⟩,
            ⟨some 63, (.ext (.t 61) 0), none⟩,
            ⟨some 64, (.ext (.t 61) 1), none⟩,
            ⟨some 15, (.mv (.t 63)), none⟩,
            ⟨some 16, (.mv (.t 64)), none⟩])
          (.seq
           (.seq
            (.ops [
              ⟨some 65, (.mv (.t 13)), none⟩,
              ⟨some 66, (.len false (.t 65)), none⟩,
              ⟨some 67, (.mv (.t 15)), none⟩,
              ⟨some 68, (.len false (.t 67)), none⟩,
              ⟨some 69, (.bini .neq (.t 66) (.t 68)), none⟩,
              ⟨some 70, (.mv (.t 69)), none⟩,
              ⟨some 71, (.mv (.t 14)), some (70, false)⟩,
              ⟨some 72, (.len false (.t 71)), some (70, false)⟩,
              ⟨some 73, (.mv (.t 16)), some (70, false)⟩,
              ⟨some 74, (.len false (.t 73)), some (70, false)⟩,
              ⟨some 75, (.bini .neq (.t 72) (.t 74)), some (70, false)⟩,
              ⟨some 76, (.pick (.t 70) (.c (.bool true)) (.t 75)), none⟩])
            (bailifflaw24_RealmCalled.sX3 t3))
           (.seq
            (.seq
             (.ops [
               ⟨some 17, (.mv (.c (.int .i64 0))), none⟩])
             (.block 0
              (.loop [13, 14, 15, 16, 17] [] (bailifflaw24_RealmCalled.bX0 t0 t1 t2 t3 t4 t5))))
            (bailifflaw24_RealmCalled.sX5 t5)))))))))))
def bailifflaw24_RealmCalled.body : DC := bailifflaw24_RealmCalled.bodyX bailifflaw24_RealmCalled.t0 bailifflaw24_RealmCalled.t1 bailifflaw24_RealmCalled.t2 bailifflaw24_RealmCalled.t3 bailifflaw24_RealmCalled.t4 bailifflaw24_RealmCalled.t5
def bailifflaw24_RealmCalled : FD := ⟨2, [.tmp 4], bailifflaw24_RealmCalled.body⟩
/-- 41 bailiff/bailiffref01.NaN -/
def bailiffref01_NaN.bodyX : DC :=
  (.seq
   (.ops [
     ⟨some 0, (.mv (.c (.float 0))), none⟩])
   (.seq
    (.ops [
      ⟨some 1, (.mv (.c (.float 0))), none⟩])
    (.seq
     (.ops [
       ⟨some 2, (.mv (.t 1)), none⟩,
       ⟨some 3, (.mv (.t 1)), none⟩,
       ⟨some 4, (.fdiv (.t 2) (.t 3)), none⟩,
       ⟨some 0, (.mv (.t 4)), none⟩])
     .ret)))
def bailiffref01_NaN.body : DC := bailiffref01_NaN.bodyX
def bailiffref01_NaN : FD := ⟨0, [.tmp 0], bailiffref01_NaN.body⟩
/-- 42 bailiff/bailiffref01.Same -/
def bailiffref01_Same.tX0 (t0 t1 t2 : DC) : DC :=
  (.ops [
    ⟨some 4, (.mv (.t 20)), none⟩])
def bailiffref01_Same.t0 : DC := bailiffref01_Same.tX0 .skip .skip .skip
def bailiffref01_Same.tX1 (t0 t1 t2 : DC) : DC :=
     (.cond (.t 12)
      (.seq
  (.opsc [
    ⟨some 13, (.mv (.t 0)), none⟩,
    ⟨some 14, (.mv (.t 0)), none⟩,
    ⟨some 15, (.binf .neq (.t 13) (.t 14)), none⟩,
    ⟨some 16, (.mv (.t 15)), none⟩,
    ⟨some 17, (.mv (.t 1)), some (16, true)⟩,
    ⟨some 18, (.mv (.t 1)), some (16, true)⟩,
    ⟨some 19, (.binf .neq (.t 17) (.t 18)), some (16, true)⟩,
    ⟨some 20, (.pick (.t 16) (.t 19) (.c (.bool false))), none⟩] [20] [] t0)
       .ret)
      .skip)
def bailiffref01_Same.t1 : DC := bailiffref01_Same.tX1 bailiffref01_Same.t0 .skip .skip
def bailiffref01_Same.sX1 (t : DC) : DC := .kp [0, 1, 12] [] t
def bailiffref01_Same.tX2 (t0 t1 t2 : DC) : DC :=
  (.ops [
    ⟨some 4, (.mv (.t 34)), none⟩])
def bailiffref01_Same.t2 : DC := bailiffref01_Same.tX2 bailiffref01_Same.t0 bailiffref01_Same.t1 .skip
def bailiffref01_Same.bodyX (t0 t1 t2 : DC) : DC :=
  (.seq
   (.ops [
     ⟨some 4, (.mv (.c (.bool false))), none⟩])
   (.seq
    (.seq
     (.ops [
       ⟨some 5, (.mv (.t 0)), none⟩,
       ⟨some 6, (.mv (.t 0)), none⟩,
       ⟨some 7, (.binf .neq (.t 5) (.t 6)), none⟩,
       ⟨some 8, (.mv (.t 7)), none⟩,
       ⟨some 9, (.mv (.t 1)), some (8, false)⟩,
       ⟨some 10, (.mv (.t 1)), some (8, false)⟩,
       ⟨some 11, (.binf .neq (.t 9) (.t 10)), some (8, false)⟩,
       ⟨some 12, (.pick (.t 8) (.c (.bool true)) (.t 11)), none⟩])
     (bailiffref01_Same.sX1 t1))
    (.seq
  (.opsc [
    ⟨some 21, (.mv (.t 0)), none⟩,
    ⟨some 22, (.mv (.t 1)), none⟩,
    ⟨some 23, (.binf .eql (.t 21) (.t 22)), none⟩,
    ⟨some 24, (.mv (.t 23)), none⟩,
    ⟨some 25, (.mv (.t 0)), some (24, true)⟩,
    ⟨some 26, (.binf .neq (.t 25) (.c (.float 0))), some (24, true)⟩,
    ⟨some 27, (.mv (.t 26)), some (24, true)⟩,
    ⟨some 28, (.mv (.t 0)), some (27, false)⟩,
    ⟨some 29, (.fdiv (.c (.float 4607182418800017408)) (.t 28)), some (27, false)⟩,
    ⟨some 30, (.mv (.t 1)), some (27, false)⟩,
    ⟨some 31, (.fdiv (.c (.float 4607182418800017408)) (.t 30)), some (27, false)⟩,
    ⟨some 32, (.binf .eql (.t 29) (.t 31)), some (27, false)⟩,
    ⟨some 33, (.pick (.t 27) (.c (.bool true)) (.t 32)), some (24, true)⟩,
    ⟨some 34, (.pick (.t 24) (.t 33) (.c (.bool false))), none⟩] [34] [] t2)
     .ret)))
def bailiffref01_Same.body : DC := bailiffref01_Same.bodyX bailiffref01_Same.t0 bailiffref01_Same.t1 bailiffref01_Same.t2
def bailiffref01_Same : FD := ⟨2, [.tmp 4], bailiffref01_Same.body⟩
/-- 45 bailiff/bailiffref07.Alike -/
def bailiffref07_Alike.tX0 (t0 t1 t2 : DC) : DC :=
  (.ops [
    ⟨some 4, (.mv (.t 30)), none⟩])
def bailiffref07_Alike.t0 : DC := bailiffref07_Alike.tX0 .skip .skip .skip
def bailiffref07_Alike.tX1 (t0 t1 t2 : DC) : DC :=
  (.opsc [
    ⟨some 24, (.mv (.t 23)), none⟩,
    ⟨some 25, (.faddr 1 (.t 2)), some (24, true)⟩,
    ⟨some 26, (.load none (.t 25)), some (24, true)⟩,
    ⟨some 27, (.faddr 1 (.t 3)), some (24, true)⟩,
    ⟨some 28, (.load none (.t 27)), some (24, true)⟩,
    ⟨some 29, (.call 42 [(.t 26), (.t 28)] .bool []), some (24, true)⟩,
    ⟨some 30, (.pick (.t 24) (.t 29) (.c (.bool false))), none⟩] [30] [] t0)
def bailiffref07_Alike.t1 : DC := bailiffref07_Alike.tX1 bailiffref07_Alike.t0 .skip .skip
def bailiffref07_Alike.tX2 (t0 t1 t2 : DC) : DC :=
  (.opsc [
    ⟨some 17, (.mv (.t 16)), none⟩,
    ⟨some 18, (.faddr 3 (.t 2)), some (17, true)⟩,
    ⟨some 19, (.load none (.t 18)), some (17, true)⟩,
    ⟨some 20, (.faddr 3 (.t 3)), some (17, true)⟩,
    ⟨some 21, (.load none (.t 20)), some (17, true)⟩,
    ⟨some 22, (.bini .eql (.t 19) (.t 21)), some (17, true)⟩,
    ⟨some 23, (.pick (.t 17) (.t 22) (.c (.bool false))), none⟩] [2, 3, 23] [2, 3] t1)
def bailiffref07_Alike.t2 : DC := bailiffref07_Alike.tX2 bailiffref07_Alike.t0 bailiffref07_Alike.t1 .skip
def bailiffref07_Alike.bodyX (t0 t1 t2 : DC) : DC :=
  (.seq
   (.ops [
     ⟨some 2, (.box 2 (.t 0)), none⟩,
     ⟨some 3, (.box 3 (.t 1)), none⟩,
     ⟨some 4, (.mv (.c (.bool false))), none⟩])
   (.seq
  (.opsc [
    ⟨some 5, (.faddr 0 (.t 2)), none⟩,
    ⟨some 6, (.load none (.t 5)), none⟩,
    ⟨some 7, (.faddr 0 (.t 3)), none⟩,
    ⟨some 8, (.load none (.t 7)), none⟩,
    ⟨some 9, (.bini .eql (.t 6) (.t 8)), none⟩,
    ⟨some 10, (.mv (.t 9)), none⟩,
    ⟨some 11, (.faddr 2 (.t 2)), some (10, true)⟩,
    ⟨some 12, (.load none (.t 11)), some (10, true)⟩,
    ⟨some 13, (.faddr 2 (.t 3)), some (10, true)⟩,
    ⟨some 14, (.load none (.t 13)), some (10, true)⟩,
    ⟨some 15, (.bins .eql (.t 12) (.t 14)), some (10, true)⟩,
    ⟨some 16, (.pick (.t 10) (.t 15) (.c (.bool false))), none⟩] [2, 3, 16] [2, 3] t2)
    .ret))
def bailiffref07_Alike.body : DC := bailiffref07_Alike.bodyX bailiffref07_Alike.t0 bailiffref07_Alike.t1 bailiffref07_Alike.t2
def bailiffref07_Alike : FD := ⟨2, [.tmp 4], bailiffref07_Alike.body⟩
/-- 49 bailiff/bailiffref07.Num -/
def bailiffref07_Num.bodyX : DC :=
  (.seq
   (.ops [
     ⟨some 2, (.alloc 2 [(.int .u8 0), (.float 0), (.str (bs [])), (.int .i64 0)] none), none⟩])
   (.seq
    (.ops [
      ⟨some 3, (.mv (.t 0)), none⟩,
      ⟨some 4, (.build [(.int .u8 0), (.float 0), (.str (bs [])), (.int .i64 0)] [((0, 1), (.c (.int .u8 3))), ((1, 1), (.t 3))]), none⟩,
      ⟨none, (.store 4 (.t 2) (.t 4)), none⟩])
    .ret))
def bailiffref07_Num.body : DC := bailiffref07_Num.bodyX
def bailiffref07_Num : FD := ⟨1, [.cell 2 (some 4)], bailiffref07_Num.body⟩
/-- 94 bailiff/bailiffref24.All -/
def bailiffref24_All.bX0 (t0 t1 : DC) : DC :=
  (.seq
   (.seq
    (.ops [
      ⟨some 8, (.mv (.t 3)), none⟩,
      ⟨some 9, (.mv (.t 2)), none⟩,
      ⟨some 10, (.len false (.t 9)), none⟩,
      ⟨some 11, (.bini .lss (.t 8) (.t 10)), none⟩])
    (.cond (.t 11)
     .skip
     (.exit 0)))
   (.seq
    (.block 1
     (.ops [
       ⟨some 14, (.mv (.t 1)), none⟩,
       ⟨some 15, (.mv (.t 2)), none⟩,
       ⟨some 16, (.mv (.t 3)), none⟩,
       ⟨some 17, (.iaddr false 0 1 (.t 15) (.t 16)), none⟩,
       ⟨some 18, (.load none (.t 17)), none⟩,
       ⟨some 19, (.bins .add (.c (.str (bs [79, 98, 106, 101, 99, 116, 46]))) (.t 18)), none⟩,
       ⟨some 20, (.bslice none .str (List.replicate 1 (bs [])) [(0, (.t 19))]), none⟩,
       ⟨some 21, (.append 1001 .str (.t 14) (.t 20)), none⟩,
       ⟨some 1, (.mv (.t 21)), none⟩]))
    (.ops [
      ⟨some 12, (.mv (.t 3)), none⟩,
      ⟨some 13, (.bini .add (.t 12) (.c (.int .i64 1))), none⟩,
      ⟨some 3, (.mv (.t 13)), none⟩])))
def bailiffref24_All.bX1 (t0 t1 : DC) : DC :=
  (.seq
   (.seq
    (.ops [
      ⟨some 23, (.mv (.t 5)), none⟩,
      ⟨some 24, (.mv (.t 4)), none⟩,
      ⟨some 25, (.len false (.t 24)), none⟩,
      ⟨some 26, (.bini .lss (.t 23) (.t 25)), none⟩])
    (.cond (.t 26)
     .skip
     (.exit 2)))
   (.seq
    (.block 3
     (.ops [
       ⟨some 29, (.mv (.t 1)), none⟩,
       ⟨some 30, (.mv (.t 4)), none⟩,
       ⟨some 31, (.mv (.t 5)), none⟩,
       ⟨some 32, (.iaddr false 0 1 (.t 30) (.t 31)), none⟩,
       ⟨some 33, (.load none (.t 32)), none⟩,
       ⟨some 34, (.bins .add (.c (.str (bs [82, 101, 102, 108, 101, 99, 116, 46]))) (.t 33)), none⟩,
       ⟨some 35, (.bslice none .str (List.replicate 1 (bs [])) [(0, (.t 34))]), none⟩,
       ⟨some 36, (.append 1001 .str (.t 29) (.t 35)), none⟩,
       ⟨some 1, (.mv (.t 36)), none⟩]))
    (.ops [
      ⟨some 27, (.mv (.t 5)), none⟩,
      ⟨some 28, (.bini .add (.t 27) (.c (.int .i64 1))), none⟩,
      ⟨some 5, (.mv (.t 28)), none⟩])))
def bailiffref24_All.tX0 (t0 t1 : DC) : DC :=
        (.seq
         (.ops [
           ⟨some 37, (.mv (.t 1)), none⟩,
           ⟨some 38, (.call 102 [] (.lst false .str) []), none⟩,
           ⟨some 39, (.append 1001 .str (.t 37) (.t 38)), none⟩,
           ⟨some 0, (.mv (.t 39)), none⟩])
         .ret)
def bailiffref24_All.t0 : DC := bailiffref24_All.tX0 .skip .skip
def bailiffref24_All.sX0 (t : DC) : DC := .kp [1] [1001] t
def bailiffref24_All.tX1 (t0 t1 : DC) : DC :=
      (.seq
       (.ops [
         ⟨some 22, (.call 101 [] (.lst false .str) []), none⟩,
         ⟨some 4, (.mv (.t 22)), none⟩])
       (.seq
        (.seq
         (.ops [
           ⟨some 5, (.mv (.c (.int .i64 0))), none⟩])
         (.block 2
          (.loop [1, 4, 5] [1001] (bailiffref24_All.bX1 t0 t1))))
        (bailiffref24_All.sX0 t0)))
def bailiffref24_All.t1 : DC := bailiffref24_All.tX1 bailiffref24_All.t0 .skip
def bailiffref24_All.sX1 (t : DC) : DC := .kp [1] [1001] t
def bailiffref24_All.bodyX (t0 t1 : DC) : DC :=
  (.seq
   (.ops [
     ⟨some 0, (.mv (.c (.nsl .str))), none⟩])
   (.seq
    (.ops [
      ⟨some 6, (.call 95 [] (.lst true .str) [1001]), none⟩,
      ⟨some 1, (.mv (.t 6)), none⟩])
    (.seq
     (.ops [
       ⟨some 7, (.call 100 [] (.lst false .str) []), none⟩,
       ⟨some 2, (.mv (.t 7)), none⟩])
     (.seq
      (.seq
       (.ops [
         ⟨some 3, (.mv (.c (.int .i64 0))), none⟩])
       (.block 0
        (.loop [1, 2, 3] [1001] (bailiffref24_All.bX0 t0 t1))))
      (bailiffref24_All.sX1 t1)))))
def bailiffref24_All.body : DC := bailiffref24_All.bodyX bailiffref24_All.t0 bailiffref24_All.t1
def bailiffref24_All : FD := ⟨0, [.tmp 0], bailiffref24_All.body⟩
/-- 95 bailiff/bailiffref24.Firsts -/
def bailiffref24_Firsts.bodyX : DC :=
  (.seq
   (.ops [
     ⟨some 0, (.mv (.c (.nsl .str))), none⟩])
   (.seq
    (.ops [
      ⟨some 1, (.bslice (some 3001) .str (List.replicate 24 (bs [])) [(0, (.c (.str (bs [79, 98, 106, 101, 99, 116, 46, 112, 114, 111, 116, 111, 116, 121, 112, 101])))), (1, (.c (.str (bs [70, 117, 110, 99, 116, 105, 111, 110, 46, 112, 114, 111, 116, 111, 116, 121, 112, 101])))), (2, (.c (.str (bs [65, 114, 114, 97, 121, 46, 112, 114, 111, 116, 111, 116, 121, 112, 101])))), (3, (.c (.str (bs [83, 116, 114, 105, 110, 103, 46, 112, 114, 111, 116, 111, 116, 121, 112, 101])))), (4, (.c (.str (bs [78, 117, 109, 98, 101, 114, 46, 112, 114, 111, 116, 111, 116, 121, 112, 101])))), (5, (.c (.str (bs [66, 111, 111, 108, 101, 97, 110, 46, 112, 114, 111, 116, 111, 116, 121, 112, 101])))), (6, (.c (.str (bs [83, 121, 109, 98, 111, 108, 46, 112, 114, 111, 116, 111, 116, 121, 112, 101])))), (7, (.c (.str (bs [69, 114, 114, 111, 114, 46, 112, 114, 111, 116, 111, 116, 121, 112, 101])))), (8, (.c (.str (bs [84, 121, 112, 101, 69, 114, 114, 111, 114, 46, 112, 114, 111, 116, 111, 116, 121, 112, 101])))), (9, (.c (.str (bs [82, 97, 110, 103, 101, 69, 114, 114, 111, 114, 46, 112, 114, 111, 116, 111, 116, 121, 112, 101])))), (10, (.c (.str (bs [82, 101, 102, 101, 114, 101, 110, 99, 101, 69, 114, 114, 111, 114, 46, 112, 114, 111, 116, 111, 116, 121, 112, 101])))), (11, (.c (.str (bs [79, 98, 106, 101, 99, 116])))), (12, (.c (.str (bs [82, 101, 102, 108, 101, 99, 116])))), (13, (.c (.str (bs [65, 114, 114, 97, 121])))), (14, (.c (.str (bs [80, 114, 111, 120, 121])))), (15, (.c (.str (bs [83, 116, 114, 105, 110, 103])))), (16, (.c (.str (bs [69, 114, 114, 111, 114])))), (17, (.c (.str (bs [84, 121, 112, 101, 69, 114, 114, 111, 114])))), (18, (.c (.str (bs [82, 97, 110, 103, 101, 69, 114, 114, 111, 114])))), (19, (.c (.str (bs [82, 101, 102, 101, 114, 101, 110, 99, 101, 69, 114, 114, 111, 114])))), (20, (.c (.str (bs [78, 117, 109, 98, 101, 114])))), (21, (.c (.str (bs [66, 111, 111, 108, 101, 97, 110])))), (22, (.c (.str (bs [83, 121, 109, 98, 111, 108])))), (23, (.c (.str (bs [112, 114, 105, 110, 116]))))]), none⟩,
      ⟨some 0, (.mv (.t 1)), none⟩])
    .ret))
def bailiffref24_Firsts.body : DC := bailiffref24_Firsts.bodyX
def bailiffref24_Firsts : FD := ⟨0, [.tmp 0], bailiffref24_Firsts.body⟩
/-- 96 bailiff/bailiffref24.Names -/
def bailiffref24_Names.bX0 (t0 : DC) : DC :=
  (.seq
   (.seq
    (.ops [
      ⟨some 12, (.mv (.t 5)), none⟩,
      ⟨some 13, (.mv (.t 2)), none⟩,
      ⟨some 14, (.len false (.t 13)), none⟩,
      ⟨some 15, (.bini .lss (.t 12) (.t 14)), none⟩])
    (.cond (.t 15)
     .skip
     (.exit 0)))
   (.seq
    (.block 1
     (.ops [
       ⟨some 18, (.mv (.t 3)), none⟩,
       ⟨some 19, (.mv (.t 4)), none⟩,
       ⟨some 20, (.mv (.t 2)), none⟩,
       ⟨some 21, (.mv (.t 5)), none⟩,
       ⟨some 22, (.iaddr false 0 1 (.t 20) (.t 21)), none⟩,
       ⟨some 23, (.load none (.t 22)), none⟩,
       ⟨some 24, (.call 106 [(.t 19), (.t 23)] (.int .i64) []), none⟩,
       ⟨some 25, (.call 108 [(.t 24)] .val []), none⟩,
       ⟨some 26, (.bslice none .val (List.replicate 1 (⟨0, 0, bs [], 0⟩ : Val)) [(0, (.t 25))]), none⟩,
       ⟨some 27, (.append 1003 .val (.t 18) (.t 26)), none⟩,
       ⟨some 3, (.mv (.t 27)), none⟩]))
    (.ops [
      ⟨some 16, (.mv (.t 5)), none⟩,
      ⟨some 17, (.bini .add (.t 16) (.c (.int .i64 1))), none⟩,
      ⟨some 5, (.mv (.t 17)), none⟩])))
def bailiffref24_Names.tX0 (t0 : DC) : DC :=
       (.seq
        (.ops [
          ⟨some 28, (.mv (.t 2)), none⟩,
          ⟨some 29, (.mv (.t 3)), none⟩,
          ⟨some 0, (.mv (.t 28)), none⟩,
          ⟨some 1, (.mv (.t 29)), none⟩])
        .ret)
def bailiffref24_Names.t0 : DC := bailiffref24_Names.tX0 .skip
def bailiffref24_Names.sX0 (t : DC) : DC := .kp [2, 3] [1003] t
def bailiffref24_Names.bodyX (t0 : DC) : DC :=
  (.seq
   (.ops [
     ⟨some 0, (.mv (.c (.nsl .str))), none⟩,
     ⟨some 1, (.mv (.c (.nsl .val))), none⟩])
   (.seq
    (.ops [
      ⟨some 6, (.bslice none .str (List.replicate 15 (bs [])) [(0, (.c (.str (bs [117, 110, 100, 101, 102, 105, 110, 101, 100])))), (1, (.c (.str (bs [78, 97, 78])))), (2, (.c (.str (bs [79, 98, 106, 101, 99, 116])))), (3, (.c (.str (bs [82, 101, 102, 108, 101, 99, 116])))), (4, (.c (.str (bs [65, 114, 114, 97, 121])))), (5, (.c (.str (bs [80, 114, 111, 120, 121])))), (6, (.c (.str (bs [83, 116, 114, 105, 110, 103])))), (7, (.c (.str (bs [78, 117, 109, 98, 101, 114])))), (8, (.c (.str (bs [66, 111, 111, 108, 101, 97, 110])))), (9, (.c (.str (bs [83, 121, 109, 98, 111, 108])))), (10, (.c (.str (bs [69, 114, 114, 111, 114])))), (11, (.c (.str (bs [84, 121, 112, 101, 69, 114, 114, 111, 114])))), (12, (.c (.str (bs [82, 97, 110, 103, 101, 69, 114, 114, 111, 114])))), (13, (.c (.str (bs [82, 101, 102, 101, 114, 101, 110, 99, 101, 69, 114, 114, 111, 114])))), (14, (.c (.str (bs [112, 114, 105, 110, 116]))))]), none⟩,
      ⟨some 2, (.mv (.t 6)), none⟩])
    (.seq
     (.ops [
       ⟨some 7, (.build [(.int .u8 0), (.float 0), (.str (bs [])), (.int .i64 0)] []), none⟩,
       ⟨some 8, (.call 41 [] .float []), none⟩,
       ⟨some 9, (.call 49 [(.t 8)] .val []), none⟩,
       ⟨some 10, (.bslice (some 1003) .val (List.replicate 2 (⟨0, 0, bs [], 0⟩ : Val)) [(0, (.t 7)), (1, (.t 9))]), none⟩,
       ⟨some 3, (.mv (.t 10)), none⟩])
     (.seq
      (.ops [
        ⟨some 11, (.call 95 [] (.lst false .str) []), none⟩,
        ⟨some 4, (.mv (.t 11)), none⟩])
      (.seq
       (.seq
        (.ops [
          ⟨some 5, (.mv (.c (.int .i64 2))), none⟩])
        (.block 0
         (.loop [2, 3, 4, 5] [1003] (bailiffref24_Names.bX0 t0))))
       (bailiffref24_Names.sX0 t0))))))
def bailiffref24_Names.body : DC := bailiffref24_Names.bodyX bailiffref24_Names.t0
def bailiffref24_Names : FD := ⟨0, [.tmp 0, .tmp 1], bailiffref24_Names.body⟩
/-- 97 bailiff/bailiffref24.Native -/
def bailiffref24_Native.tX0 (t0 : DC) : DC :=
      (.cond (.t 17)
       (.seq
        (.ops [
          ⟨some 18, (.mv (.t 4)), none⟩,
          ⟨some 19, (.mv (.t 0)), none⟩,
          ⟨some 20, (.iaddr false 0 1 (.t 18) (.t 19)), none⟩,
          ⟨some 21, (.load none (.t 20)), none⟩,
          ⟨some 2, (.mv (.t 21)), none⟩,
          ⟨some 3, (.mv (.c (.bool true))), none⟩])
        .ret)
       .skip)
def bailiffref24_Native.t0 : DC := bailiffref24_Native.tX0 .skip
def bailiffref24_Native.sX0 (t : DC) : DC := .kp [0, 4, 17] [] t
def bailiffref24_Native.bodyX (t0 : DC) : DC :=
  (.seq
   (.ops [
     ⟨some 2, (.mv (.c (.str (bs [])))), none⟩,
     ⟨some 3, (.mv (.c (.bool false))), none⟩])
   (.seq
    (.ops [
      ⟨some 5, (.call 94 [] (.lst false .str) []), none⟩,
      ⟨some 4, (.mv (.t 5)), none⟩])
    (.seq
     (.seq
      (.ops [
        ⟨some 6, (.mv (.t 0)), none⟩,
        ⟨some 7, (.bini .eql (.t 6) (.c (.int .i64 1))), none⟩,
        ⟨some 8, (.mv (.t 7)), none⟩,
        ⟨some 9, (.mv (.t 0)), some (8, false)⟩,
        ⟨some 10, (.bini .geq (.t 9) (.c (.int .i64 14))), some (8, false)⟩,
        ⟨some 11, (.mv (.t 10)), some (8, false)⟩,
        ⟨some 12, (.mv (.t 0)), some (11, true)⟩,
        ⟨some 13, (.mv (.t 4)), some (11, true)⟩,
        ⟨some 14, (.len false (.t 13)), some (11, true)⟩,
        ⟨some 15, (.bini .lss (.t 12) (.t 14)), some (11, true)⟩,
        ⟨some 16, (.pick (.t 11) (.t 15) (.c (.bool false))), some (8, false)⟩,
        ⟨some 17, (.pick (.t 8) (.c (.bool true)) (.t 16)), none⟩])
      (bailiffref24_Native.sX0 t0))
     (.seq
      (.ops [
        ⟨some 2, (.mv (.c (.str (bs [])))), none⟩,
        ⟨some 3, (.mv (.c (.bool false))), none⟩])
      .ret))))
def bailiffref24_Native.body : DC := bailiffref24_Native.bodyX bailiffref24_Native.t0
def bailiffref24_Native : FD := ⟨1, [.tmp 2, .tmp 3], bailiffref24_Native.body⟩
/-- 99 bailiff/bailiffref24.Number -/
def bailiffref24_Number.tX0 (t0 : DC) : DC :=
      (.cond (.t 13)
       (.seq
        (.ops [
          ⟨some 14, (.mv (.t 4)), none⟩,
          ⟨some 2, (.mv (.t 14)), none⟩,
          ⟨some 3, (.mv (.c (.bool true))), none⟩])
        .ret)
       .skip)
def bailiffref24_Number.t0 : DC := bailiffref24_Number.tX0 .skip
def bailiffref24_Number.sX0 (t : DC) : DC := .kp [4, 13] [] t
def bailiffref24_Number.bodyX (t0 : DC) : DC :=
  (.seq
   (.ops [
     ⟨some 2, (.mv (.c (.int .i64 0))), none⟩,
     ⟨some 3, (.mv (.c (.bool false))), none⟩])
   (.seq
    (.ops [
      ⟨some 5, (.call 94 [] (.lst false .str) []), none⟩,
      ⟨some 6, (.mv (.t 0)), none⟩,
      ⟨some 7, (.call 106 [(.t 5), (.t 6)] (.int .i64) []), none⟩,
      ⟨some 4, (.mv (.t 7)), none⟩])
    (.seq
     (.seq
      (.ops [
        ⟨some 8, (.mv (.t 4)), none⟩,
        ⟨some 9, (.bini .eql (.t 8) (.c (.int .i64 1))), none⟩,
        ⟨some 10, (.mv (.t 9)), none⟩,
        ⟨some 11, (.mv (.t 4)), some (10, false)⟩,
        ⟨some 12, (.bini .geq (.t 11) (.c (.int .i64 14))), some (10, false)⟩,
        ⟨some 13, (.pick (.t 10) (.c (.bool true)) (.t 12)), none⟩])
      (bailiffref24_Number.sX0 t0))
     (.seq
      (.ops [
        ⟨some 2, (.mv (.c (.int .i64 0))), none⟩,
        ⟨some 3, (.mv (.c (.bool false))), none⟩])
      .ret))))
def bailiffref24_Number.body : DC := bailiffref24_Number.bodyX bailiffref24_Number.t0
def bailiffref24_Number : FD := ⟨1, [.tmp 2, .tmp 3], bailiffref24_Number.body⟩
/-- 100 bailiff/bailiffref24.OfObject -/
def bailiffref24_OfObject.bodyX : DC :=
  (.seq
   (.ops [
     ⟨some 0, (.mv (.c (.nsl .str))), none⟩])
   (.seq
    (.ops [
      ⟨some 1, (.bslice (some 3001) .str (List.replicate 16 (bs [])) [(0, (.c (.str (bs [97, 115, 115, 105, 103, 110])))), (1, (.c (.str (bs [99, 114, 101, 97, 116, 101])))), (2, (.c (.str (bs [100, 101, 102, 105, 110, 101, 80, 114, 111, 112, 101, 114, 116, 121])))), (3, (.c (.str (bs [102, 114, 101, 101, 122, 101])))), (4, (.c (.str (bs [103, 101, 116, 79, 119, 110, 80, 114, 111, 112, 101, 114, 116, 121, 68, 101, 115, 99, 114, 105, 112, 116, 111, 114])))), (5, (.c (.str (bs [103, 101, 116, 79, 119, 110, 80, 114, 111, 112, 101, 114, 116, 121, 78, 97, 109, 101, 115])))), (6, (.c (.str (bs [103, 101, 116, 79, 119, 110, 80, 114, 111, 112, 101, 114, 116, 121, 83, 121, 109, 98, 111, 108, 115])))), (7, (.c (.str (bs [103, 101, 116, 80, 114, 111, 116, 111, 116, 121, 112, 101, 79, 102])))), (8, (.c (.str (bs [105, 115])))), (9, (.c (.str (bs [105, 115, 69, 120, 116, 101, 110, 115, 105, 98, 108, 101])))), (10, (.c (.str (bs [105, 115, 70, 114, 111, 122, 101, 110])))), (11, (.c (.str (bs [105, 115, 83, 101, 97, 108, 101, 100])))), (12, (.c (.str (bs [107, 101, 121, 115])))), (13, (.c (.str (bs [112, 114, 101, 118, 101, 110, 116, 69, 120, 116, 101, 110, 115, 105, 111, 110, 115])))), (14, (.c (.str (bs [115, 101, 97, 108])))), (15, (.c (.str (bs [115, 101, 116, 80, 114, 111, 116, 111, 116, 121, 112, 101, 79, 102]))))]), none⟩,
      ⟨some 0, (.mv (.t 1)), none⟩])
    .ret))
def bailiffref24_OfObject.body : DC := bailiffref24_OfObject.bodyX
def bailiffref24_OfObject : FD := ⟨0, [.tmp 0], bailiffref24_OfObject.body⟩
/-- 101 bailiff/bailiffref24.OfReflect -/
def bailiffref24_OfReflect.bodyX : DC :=
  (.seq
   (.ops [
     ⟨some 0, (.mv (.c (.nsl .str))), none⟩])
   (.seq
    (.ops [
      ⟨some 1, (.bslice (some 3001) .str (List.replicate 13 (bs [])) [(0, (.c (.str (bs [97, 112, 112, 108, 121])))), (1, (.c (.str (bs [99, 111, 110, 115, 116, 114, 117, 99, 116])))), (2, (.c (.str (bs [100, 101, 102, 105, 110, 101, 80, 114, 111, 112, 101, 114, 116, 121])))), (3, (.c (.str (bs [100, 101, 108, 101, 116, 101, 80, 114, 111, 112, 101, 114, 116, 121])))), (4, (.c (.str (bs [103, 101, 116])))), (5, (.c (.str (bs [103, 101, 116, 79, 119, 110, 80, 114, 111, 112, 101, 114, 116, 121, 68, 101, 115, 99, 114, 105, 112, 116, 111, 114])))), (6, (.c (.str (bs [103, 101, 116, 80, 114, 111, 116, 111, 116, 121, 112, 101, 79, 102])))), (7, (.c (.str (bs [104, 97, 115])))), (8, (.c (.str (bs [105, 115, 69, 120, 116, 101, 110, 115, 105, 98, 108, 101])))), (9, (.c (.str (bs [111, 119, 110, 75, 101, 121, 115])))), (10, (.c (.str (bs [112, 114, 101, 118, 101, 110, 116, 69, 120, 116, 101, 110, 115, 105, 111, 110, 115])))), (11, (.c (.str (bs [115, 101, 116])))), (12, (.c (.str (bs [115, 101, 116, 80, 114, 111, 116, 111, 116, 121, 112, 101, 79, 102]))))]), none⟩,
      ⟨some 0, (.mv (.t 1)), none⟩])
    .ret))
def bailiffref24_OfReflect.body : DC := bailiffref24_OfReflect.bodyX
def bailiffref24_OfReflect : FD := ⟨0, [.tmp 0], bailiffref24_OfReflect.body⟩
/-- 102 bailiff/bailiffref24.Others -/
def bailiffref24_Others.bodyX : DC :=
  (.seq
   (.ops [
     ⟨some 0, (.mv (.c (.nsl .str))), none⟩])
   (.seq
    (.ops [
      ⟨some 1, (.bslice (some 3001) .str (List.replicate 19 (bs [])) [(0, (.c (.str (bs [80, 114, 111, 120, 121, 46, 114, 101, 118, 111, 99, 97, 98, 108, 101])))), (1, (.c (.str (bs [65, 114, 114, 97, 121, 46, 105, 115, 65, 114, 114, 97, 121])))), (2, (.c (.str (bs [79, 98, 106, 101, 99, 116, 46, 112, 114, 111, 116, 111, 116, 121, 112, 101, 46, 104, 97, 115, 79, 119, 110, 80, 114, 111, 112, 101, 114, 116, 121])))), (3, (.c (.str (bs [79, 98, 106, 101, 99, 116, 46, 112, 114, 111, 116, 111, 116, 121, 112, 101, 46, 116, 111, 83, 116, 114, 105, 110, 103])))), (4, (.c (.str (bs [79, 98, 106, 101, 99, 116, 46, 112, 114, 111, 116, 111, 116, 121, 112, 101, 46, 118, 97, 108, 117, 101, 79, 102])))), (5, (.c (.str (bs [70, 117, 110, 99, 116, 105, 111, 110, 46, 112, 114, 111, 116, 111, 116, 121, 112, 101, 46, 97, 112, 112, 108, 121])))), (6, (.c (.str (bs [70, 117, 110, 99, 116, 105, 111, 110, 46, 112, 114, 111, 116, 111, 116, 121, 112, 101, 46, 99, 97, 108, 108])))), (7, (.c (.str (bs [65, 114, 114, 97, 121, 46, 112, 114, 111, 116, 111, 116, 121, 112, 101, 46, 112, 117, 115, 104])))), (8, (.c (.str (bs [83, 116, 114, 105, 110, 103, 46, 112, 114, 111, 116, 111, 116, 121, 112, 101, 46, 105, 110, 100, 101, 120, 79, 102])))), (9, (.c (.str (bs [83, 116, 114, 105, 110, 103, 46, 112, 114, 111, 116, 111, 116, 121, 112, 101, 46, 115, 108, 105, 99, 101])))), (10, (.c (.str (bs [83, 116, 114, 105, 110, 103, 46, 112, 114, 111, 116, 111, 116, 121, 112, 101, 46, 116, 111, 83, 116, 114, 105, 110, 103])))), (11, (.c (.str (bs [83, 116, 114, 105, 110, 103, 46, 112, 114, 111, 116, 111, 116, 121, 112, 101, 46, 118, 97, 108, 117, 101, 79, 102])))), (12, (.c (.str (bs [78, 117, 109, 98, 101, 114, 46, 112, 114, 111, 116, 111, 116, 121, 112, 101, 46, 116, 111, 83, 116, 114, 105, 110, 103])))), (13, (.c (.str (bs [78, 117, 109, 98, 101, 114, 46, 112, 114, 111, 116, 111, 116, 121, 112, 101, 46, 118, 97, 108, 117, 101, 79, 102])))), (14, (.c (.str (bs [66, 111, 111, 108, 101, 97, 110, 46, 112, 114, 111, 116, 111, 116, 121, 112, 101, 46, 116, 111, 83, 116, 114, 105, 110, 103])))), (15, (.c (.str (bs [66, 111, 111, 108, 101, 97, 110, 46, 112, 114, 111, 116, 111, 116, 121, 112, 101, 46, 118, 97, 108, 117, 101, 79, 102])))), (16, (.c (.str (bs [83, 121, 109, 98, 111, 108, 46, 112, 114, 111, 116, 111, 116, 121, 112, 101, 46, 116, 111, 83, 116, 114, 105, 110, 103])))), (17, (.c (.str (bs [83, 121, 109, 98, 111, 108, 46, 112, 114, 111, 116, 111, 116, 121, 112, 101, 46, 118, 97, 108, 117, 101, 79, 102])))), (18, (.c (.str (bs [69, 114, 114, 111, 114, 46, 112, 114, 111, 116, 111, 116, 121, 112, 101, 46, 116, 111, 83, 116, 114, 105, 110, 103]))))]), none⟩,
      ⟨some 0, (.mv (.t 1)), none⟩])
    .ret))
def bailiffref24_Others.body : DC := bailiffref24_Others.bodyX
def bailiffref24_Others : FD := ⟨0, [.tmp 0], bailiffref24_Others.body⟩
/-- 104 bailiff/bailiffref24.can -/
def bailiffref24_can.tX0 (t0 t1 : DC) : DC :=
     (.cond (.t 8)
      (.seq
       (.ops [
         ⟨some 2, (.mv (.c (.int .u8 8))), none⟩])
       .ret)
      .skip)
def bailiffref24_can.t0 : DC := bailiffref24_can.tX0 .skip .skip
def bailiffref24_can.sX0 (t : DC) : DC := .kp [0, 8] [] t
def bailiffref24_can.tX1 (t0 t1 : DC) : DC :=
      (.cond (.t 14)
       (.seq
        (.ops [
          ⟨some 2, (.mv (.c (.int .u8 7))), none⟩])
        .ret)
       .skip)
def bailiffref24_can.t1 : DC := bailiffref24_can.tX1 bailiffref24_can.t0 .skip
def bailiffref24_can.sX1 (t : DC) : DC := .kp [14] [] t
def bailiffref24_can.bodyX (t0 t1 : DC) : DC :=
  (.seq
   (.ops [
     ⟨some 2, (.mv (.c (.int .u8 0))), none⟩])
   (.seq
    (.seq
     (.ops [
       ⟨some 3, (.mv (.t 0)), none⟩,
       ⟨some 4, (.bini .geq (.t 3) (.c (.int .i64 14))), none⟩,
       ⟨some 5, (.mv (.t 4)), none⟩,
       ⟨some 6, (.mv (.t 0)), some (5, true)⟩,
       ⟨some 7, (.bini .leq (.t 6) (.c (.int .i64 19))), some (5, true)⟩,
       ⟨some 8, (.pick (.t 5) (.t 7) (.c (.bool false))), none⟩])
     (bailiffref24_can.sX0 t0))
    (.seq
     (.seq
      (.ops [
        ⟨some 9, (.mv (.t 0)), none⟩,
        ⟨some 10, (.bini .eql (.t 9) (.c (.int .i64 1))), none⟩,
        ⟨some 11, (.mv (.t 10)), none⟩,
        ⟨some 12, (.mv (.t 0)), some (11, false)⟩,
        ⟨some 13, (.bini .geq (.t 12) (.c (.int .i64 20))), some (11, false)⟩,
        ⟨some 14, (.pick (.t 11) (.c (.bool true)) (.t 13)), none⟩])
      (bailiffref24_can.sX1 t1))
     (.seq
      (.ops [
        ⟨some 2, (.mv (.c (.int .u8 6))), none⟩])
      .ret))))
def bailiffref24_can.body : DC := bailiffref24_can.bodyX bailiffref24_can.t0 bailiffref24_can.t1
def bailiffref24_can : FD := ⟨1, [.tmp 2], bailiffref24_can.body⟩
/-- 106 bailiff/bailiffref24.find -/
def bailiffref24_find.bX0 (t0 : DC) : DC :=
  (.seq
   (.seq
    (.ops [
      ⟨some 6, (.mv (.t 5)), none⟩,
      ⟨some 7, (.mv (.t 0)), none⟩,
      ⟨some 8, (.len false (.t 7)), none⟩,
      ⟨some 9, (.bini .lss (.t 6) (.t 8)), none⟩])
    (.cond (.t 9)
     .skip
     (.exit 0)))
   (.seq
    (.block 1
     (.seq
      (.ops [
        ⟨some 12, (.mv (.t 0)), none⟩,
        ⟨some 13, (.mv (.t 5)), none⟩,
        ⟨some 14, (.iaddr false 0 1 (.t 12) (.t 13)), none⟩,
        ⟨some 15, (.load none (.t 14)), none⟩,
        ⟨some 16, (.mv (.t 1)), none⟩,
        ⟨some 17, (.bins .eql (.t 15) (.t 16)), none⟩])
      (.cond (.t 17)
       (.seq
        (.ops [
          ⟨some 18, (.mv (.t 5)), none⟩,
          ⟨some 4, (.mv (.t 18)), none⟩])
        .ret)
       .skip)))
    (.ops [
      ⟨some 10, (.mv (.t 5)), none⟩,
      ⟨some 11, (.bini .add (.t 10) (.c (.int .i64 1))), none⟩,
      ⟨some 5, (.mv (.t 11)), none⟩])))
def bailiffref24_find.tX0 (t0 : DC) : DC :=
    (.seq
     (.ops [
       ⟨some 4, (.mv (.c (.int .i64 (-1)))), none⟩])
     .ret)
def bailiffref24_find.t0 : DC := bailiffref24_find.tX0 .skip
def bailiffref24_find.sX0 (t : DC) : DC := .kp [] [] t
def bailiffref24_find.bodyX (t0 : DC) : DC :=
  (.seq
   (.ops [
     ⟨some 4, (.mv (.c (.int .i64 0))), none⟩])
   (.seq
    (.seq
     (.ops [
       ⟨some 5, (.mv (.c (.int .i64 0))), none⟩])
     (.block 0
      (.loop [0, 1, 5] [] (bailiffref24_find.bX0 t0))))
    (bailiffref24_find.sX0 t0)))
def bailiffref24_find.body : DC := bailiffref24_find.bodyX bailiffref24_find.t0
def bailiffref24_find : FD := ⟨2, [.tmp 4], bailiffref24_find.body⟩
/-- 108 bailiff/bailiffref24.object -/
def bailiffref24_object.bodyX : DC :=
  (.seq
   (.ops [
     ⟨some 2, (.alloc 2 [(.int .u8 0), (.float 0), (.str (bs [])), (.int .i64 0)] none), none⟩])
   (.seq
    (.ops [
      ⟨some 3, (.mv (.t 0)), none⟩,
      ⟨some 4, (.call 104 [(.t 3)] (.int .u8) []), none⟩,
      ⟨some 5, (.mv (.t 0)), none⟩,
      ⟨some 6, (.build [(.int .u8 0), (.float 0), (.str (bs [])), (.int .i64 0)] [((0, 1), (.t 4)), ((3, 1), (.t 5))]), none⟩,
      ⟨none, (.store 4 (.t 2) (.t 6)), none⟩])
    .ret))
def bailiffref24_object.body : DC := bailiffref24_object.bodyX
def bailiffref24_object : FD := ⟨1, [.cell 2 (some 4)], bailiffref24_object.body⟩
/-- 162 bailiff/realm.Names -/
def realm_Names.bX0 (t0 : DC) : DC :=
  (.seq
   (.ops [
     ⟨some 13, (.bini .lss (.t 12) (.t 11)), none⟩])
   (.seq
    (.cond (.t 13)
     .skip
     (.exit 0))
    (.seq
     (.block 1
      (.seq
       (.ops [
         ⟨some 14, (.iaddr false 0 1 (.t 10) (.t 12)), none⟩,
         ⟨some 15, (.load none (.t 14)), none⟩,
         ⟨some 3, (.mv (.t 15)), none⟩])
       (.ops [
         ⟨some 16, (.mv (.t 1)), none⟩,
         ⟨some 17, (.mv (.t 3)), none⟩,
         ⟨some 18, (.call 173 [(.t 17)] (.int .i64) []), none⟩,
         ⟨some 19, (.call 172 [(.t 18)] .val []), none⟩,
         ⟨some 20, (.bslice none .val (List.replicate 1 (⟨0, 0, bs [], 0⟩ : Val)) [(0, (.t 19))]), none⟩,
         ⟨some 21, (.append 1001 .val (.t 16) (.t 20)), none⟩,
         ⟨some 1, (.mv (.t 21)), none⟩])))
     (.ops [
       ⟨some 22, (.bini .add (.t 12) (.c (.int .i64 1))), none⟩,
       ⟨some 12, (.mv (.t 22)), none⟩]))))
def realm_Names.tX0 (t0 : DC) : DC :=
      (.seq
       (.ops [
         ⟨some 23, (.mv (.t 0)), none⟩,
         ⟨some 24, (.mv (.t 1)), none⟩,
         ⟨some 0, (.mv (.t 23)), none⟩,
         ⟨some 1, (.mv (.t 24)), none⟩])
       .ret)
def realm_Names.t0 : DC := realm_Names.tX0 .skip
def realm_Names.sX0 (t : DC) : DC := .kp [0, 1] [1001] t
def realm_Names.bodyX (t0 : DC) : DC :=
  (.seq
   (.ops [
     ⟨some 0, (.mv (.c (.nsl .str))), none⟩,
     ⟨some 1, (.mkrow 1001 .val), none⟩])
   (.seq
    (.ops [
      ⟨some 4, (.bslice none .str (List.replicate 15 (bs [])) [(0, (.c (.str (bs [117, 110, 100, 101, 102, 105, 110, 101, 100])))), (1, (.c (.str (bs [78, 97, 78])))), (2, (.c (.str (bs [79, 98, 106, 101, 99, 116])))), (3, (.c (.str (bs [82, 101, 102, 108, 101, 99, 116])))), (4, (.c (.str (bs [65, 114, 114, 97, 121])))), (5, (.c (.str (bs [80, 114, 111, 120, 121])))), (6, (.c (.str (bs [83, 116, 114, 105, 110, 103])))), (7, (.c (.str (bs [78, 117, 109, 98, 101, 114])))), (8, (.c (.str (bs [66, 111, 111, 108, 101, 97, 110])))), (9, (.c (.str (bs [83, 121, 109, 98, 111, 108])))), (10, (.c (.str (bs [69, 114, 114, 111, 114])))), (11, (.c (.str (bs [84, 121, 112, 101, 69, 114, 114, 111, 114])))), (12, (.c (.str (bs [82, 97, 110, 103, 101, 69, 114, 114, 111, 114])))), (13, (.c (.str (bs [82, 101, 102, 101, 114, 101, 110, 99, 101, 69, 114, 114, 111, 114])))), (14, (.c (.str (bs [112, 114, 105, 110, 116]))))]), none⟩,
      ⟨some 0, (.mv (.t 4)), none⟩])
    (.seq
     (.ops [
       ⟨some 5, (.build [(.int .u8 0), (.float 0), (.str (bs [])), (.int .i64 0)] []), none⟩,
       ⟨some 6, (.call 211 [] .float []), none⟩,
       ⟨some 7, (.call 183 [(.t 6)] .val []), none⟩,
       ⟨some 8, (.bslice (some 1001) .val (List.replicate 2 (⟨0, 0, bs [], 0⟩ : Val)) [(0, (.t 5)), (1, (.t 7))]), none⟩,
       ⟨some 1, (.mv (.t 8)), none⟩])
     (.seq
      (.seq
       (.ops [
         ⟨some 9, (.mv (.t 0)), none⟩,
         ⟨some 10, (.ssl 1 (.t 9) (some (.c (.int .i64 2))) none), none⟩,
         ⟨some 11, (.len false (.t 10)), none⟩,
         ⟨some 12, (.mv (.c (.int .i64 0))), none⟩])
       (.block 0
        (.loop [0, 1, 10, 11, 12] [1001] (realm_Names.bX0 t0))))
      (realm_Names.sX0 t0)))))
def realm_Names.body : DC := realm_Names.bodyX realm_Names.t0
def realm_Names : FD := ⟨0, [.tmp 0, .tmp 1], realm_Names.body⟩
/-- 163 bailiff/realm.Native -/
def realm_Native.tX0 (t0 t1 t2 t3 : DC) : DC :=
  (.ops [
    ⟨some 8, (.mv (.t 16)), none⟩])
def realm_Native.t0 : DC := realm_Native.tX0 .skip .skip .skip .skip
def realm_Native.tX1 (t0 t1 t2 t3 : DC) : DC :=
  (.ops [
    ⟨some 20, (.mv (.t 26)), none⟩])
def realm_Native.t1 : DC := realm_Native.tX1 realm_Native.t0 .skip .skip .skip
def realm_Native.tX2 (t0 t1 t2 t3 : DC) : DC :=
         (.cond (.t 20)
          (.seq
           (.ops [
             ⟨some 27, (.mv (.t 0)), none⟩,
             ⟨some 28, (.bini .sub (.t 27) (.c (.int .i64 24))), none⟩,
             ⟨some 29, (.iaddr true 48 1 (.t 5) (.t 28)), none⟩,
             ⟨some 30, (.load none (.t 29)), none⟩,
             ⟨some 2, (.mv (.t 30)), none⟩,
             ⟨some 3, (.mv (.c (.bool true))), none⟩])
           .ret)
          .skip)
def realm_Native.t2 : DC := realm_Native.tX2 realm_Native.t0 realm_Native.t1 .skip .skip
def realm_Native.sX2 (t : DC) : DC := .kp [0, 5, 20] [5] t
def realm_Native.tX3 (t0 t1 t2 t3 : DC) : DC :=
       (.cond (.t 8)
        (.seq
         (.ops [
           ⟨some 17, (.mv (.t 0)), none⟩,
           ⟨some 18, (.iaddr true 24 1 (.t 4) (.t 17)), none⟩,
           ⟨some 19, (.load none (.t 18)), none⟩,
           ⟨some 2, (.mv (.t 19)), none⟩,
           ⟨some 3, (.mv (.c (.bool true))), none⟩])
         .ret)
        (.seq
  (.opsc [
    ⟨some 21, (.mv (.t 0)), none⟩,
    ⟨some 22, (.bini .geq (.t 21) (.c (.int .i64 24))), none⟩,
    ⟨some 23, (.mv (.t 22)), none⟩,
    ⟨some 24, (.mv (.t 0)), some (23, true)⟩,
    ⟨some 25, (.bini .lss (.t 24) (.c (.int .i64 72))), some (23, true)⟩,
    ⟨some 26, (.pick (.t 23) (.t 25) (.c (.bool false))), none⟩] [0, 5, 26] [5] t1)
         (realm_Native.sX2 t2)))
def realm_Native.t3 : DC := realm_Native.tX3 realm_Native.t0 realm_Native.t1 realm_Native.t2 .skip
def realm_Native.sX3 (t : DC) : DC := .kp [0, 4, 5, 8] [4, 5] t
def realm_Native.bodyX (t0 t1 t2 t3 : DC) : DC :=
  (.seq
   (.ops [
     ⟨some 2, (.mv (.c (.str (bs [])))), none⟩,
     ⟨some 3, (.mv (.c (.bool false))), none⟩])
   (.seq
    (.ops [
      ⟨some 6, (.call 167 [] (.arr .str) []), none⟩,
      ⟨some 7, (.call 168 [] (.arr .str) []), none⟩,
      ⟨some 4, (.alloca 4 .str (List.replicate 24 (bs []))), none⟩,
      ⟨some 5, (.alloca 5 .str (List.replicate 48 (bs []))), none⟩,
      ⟨none, (.storea 24 (.t 4) (.t 6)), none⟩,
      ⟨none, (.storea 48 (.t 5) (.t 7)), none⟩])
    (.seq
     (.block 0
      (.seq
       (.seq
        (.ops [
          ⟨some 9, (.mv (.t 0)), none⟩,
          ⟨some 10, (.bini .eql (.t 9) (.c (.int .i64 1))), none⟩,
          ⟨some 8, (.mv (.t 10)), none⟩])
        (.cond (.t 8)
         .skip
  (.opsc [
    ⟨some 11, (.mv (.t 0)), none⟩,
    ⟨some 12, (.bini .geq (.t 11) (.c (.int .i64 14))), none⟩,
    ⟨some 13, (.mv (.t 12)), none⟩,
    ⟨some 14, (.mv (.t 0)), some (13, true)⟩,
    ⟨some 15, (.bini .lss (.t 14) (.c (.int .i64 24))), some (13, true)⟩,
    ⟨some 16, (.pick (.t 13) (.t 15) (.c (.bool false))), none⟩] [0, 4, 5, 16] [4, 5] t0)))
       (realm_Native.sX3 t3)))
     (.seq
      (.ops [
        ⟨some 2, (.mv (.c (.str (bs [])))), none⟩,
        ⟨some 3, (.mv (.c (.bool false))), none⟩])
      .ret))))
def realm_Native.body : DC := realm_Native.bodyX realm_Native.t0 realm_Native.t1 realm_Native.t2 realm_Native.t3
def realm_Native : FD := ⟨1, [.tmp 2, .tmp 3], realm_Native.body⟩
/-- 165 bailiff/realm.Number -/
def realm_Number.tX0 (t0 t1 : DC) : DC :=
         (.cond (.t 22)
          (.seq
           (.ops [
             ⟨some 23, (.mv (.t 5)), none⟩,
             ⟨some 2, (.mv (.t 23)), none⟩,
             ⟨some 3, (.mv (.c (.bool true))), none⟩])
           .ret)
          .skip)
def realm_Number.t0 : DC := realm_Number.tX0 .skip .skip
def realm_Number.sX0 (t : DC) : DC := .kp [0, 5, 9, 22] [] t
def realm_Number.bX0 (t0 t1 : DC) : DC :=
  (.seq
   (.ops [
     ⟨some 10, (.bini .lss (.t 9) (.c (.int .i64 72))), none⟩])
   (.seq
    (.cond (.t 10)
     .skip
     (.exit 0))
    (.seq
     (.block 1
      (.seq
       (.ops [
         ⟨some 11, (.mv (.t 9)), none⟩,
         ⟨some 5, (.mv (.t 11)), none⟩])
       (.seq
        (.ops [
          ⟨some 13, (.mv (.t 5)), none⟩,
          ⟨some 14, (.call 163 [(.t 13)] (.p2 .str .bool) []), none⟩,
          ⟨some 12, (.mv (.t 14)), none⟩,
          ⟨some 15, (.ext (.t 12) 0), none⟩,
          ⟨some 16, (.ext (.t 12) 1), none⟩,
          ⟨some 6, (.mv (.t 15)), none⟩,
          ⟨some 7, (.mv (.t 16)), none⟩])
        (.seq
         (.ops [
           ⟨some 17, (.mv (.t 7)), none⟩,
           ⟨some 18, (.mv (.t 17)), none⟩,
           ⟨some 19, (.mv (.t 6)), some (18, true)⟩,
           ⟨some 20, (.mv (.t 0)), some (18, true)⟩,
           ⟨some 21, (.bins .eql (.t 19) (.t 20)), some (18, true)⟩,
           ⟨some 22, (.pick (.t 18) (.t 21) (.c (.bool false))), none⟩])
         (realm_Number.sX0 t0)))))
     (.ops [
       ⟨some 24, (.bini .add (.t 9) (.c (.int .i64 1))), none⟩,
       ⟨some 9, (.mv (.t 24)), none⟩]))))
def realm_Number.tX1 (t0 t1 : DC) : DC :=
     (.seq
      (.ops [
        ⟨some 2, (.mv (.c (.int .i64 0))), none⟩,
        ⟨some 3, (.mv (.c (.bool false))), none⟩])
      .ret)
def realm_Number.t1 : DC := realm_Number.tX1 realm_Number.t0 .skip
def realm_Number.sX1 (t : DC) : DC := .kp [] [] t
def realm_Number.bodyX (t0 t1 : DC) : DC :=
  (.seq
   (.ops [
     ⟨some 2, (.mv (.c (.int .i64 0))), none⟩,
     ⟨some 3, (.mv (.c (.bool false))), none⟩])
   (.seq
    (.ops [
      ⟨some 8, (.call 168 [] (.arr .str) []), none⟩,
      ⟨some 4, (.alloca 4 .str (List.replicate 48 (bs []))), none⟩,
      ⟨none, (.storea 48 (.t 4) (.t 8)), none⟩])
    (.seq
     (.seq
      (.ops [
        ⟨some 9, (.mv (.c (.int .i64 0))), none⟩])
      (.block 0
       (.loop [0, 9] [] (realm_Number.bX0 t0 t1))))
     (realm_Number.sX1 t1))))
def realm_Number.body : DC := realm_Number.bodyX realm_Number.t0 realm_Number.t1
def realm_Number : FD := ⟨1, [.tmp 2, .tmp 3], realm_Number.body⟩
/-- 166 bailiff/realm.Symbols -/
def realm_Symbols.bodyX : DC :=
  (.seq
   (.ops [
     ⟨some 0, (.mv (.c (.nsl .str))), none⟩])
   (.seq
    (.ops [
      ⟨some 1, (.bslice (some 3001) .str (List.replicate 1 (bs [])) [(0, (.c (.str (bs [116, 111, 80, 114, 105, 109, 105, 116, 105, 118, 101]))))]), none⟩,
      ⟨some 0, (.mv (.t 1)), none⟩])
    .ret))
def realm_Symbols.body : DC := realm_Symbols.bodyX
def realm_Symbols : FD := ⟨0, [.tmp 0], realm_Symbols.body⟩
/-- 167 bailiff/realm.firsts -/
def realm_firsts.bodyX : DC :=
  (.seq
   (.ops [
     ⟨some 0, (.alloca 0 .str (List.replicate 24 (bs []))), none⟩])
   (.seq
    (.ops [
      ⟨some 1, (.builda .str (List.replicate 24 (bs [])) [(0, (.c (.str (bs [79, 98, 106, 101, 99, 116, 46, 112, 114, 111, 116, 111, 116, 121, 112, 101])))), (1, (.c (.str (bs [70, 117, 110, 99, 116, 105, 111, 110, 46, 112, 114, 111, 116, 111, 116, 121, 112, 101])))), (2, (.c (.str (bs [65, 114, 114, 97, 121, 46, 112, 114, 111, 116, 111, 116, 121, 112, 101])))), (3, (.c (.str (bs [83, 116, 114, 105, 110, 103, 46, 112, 114, 111, 116, 111, 116, 121, 112, 101])))), (4, (.c (.str (bs [78, 117, 109, 98, 101, 114, 46, 112, 114, 111, 116, 111, 116, 121, 112, 101])))), (5, (.c (.str (bs [66, 111, 111, 108, 101, 97, 110, 46, 112, 114, 111, 116, 111, 116, 121, 112, 101])))), (6, (.c (.str (bs [83, 121, 109, 98, 111, 108, 46, 112, 114, 111, 116, 111, 116, 121, 112, 101])))), (7, (.c (.str (bs [69, 114, 114, 111, 114, 46, 112, 114, 111, 116, 111, 116, 121, 112, 101])))), (8, (.c (.str (bs [84, 121, 112, 101, 69, 114, 114, 111, 114, 46, 112, 114, 111, 116, 111, 116, 121, 112, 101])))), (9, (.c (.str (bs [82, 97, 110, 103, 101, 69, 114, 114, 111, 114, 46, 112, 114, 111, 116, 111, 116, 121, 112, 101])))), (10, (.c (.str (bs [82, 101, 102, 101, 114, 101, 110, 99, 101, 69, 114, 114, 111, 114, 46, 112, 114, 111, 116, 111, 116, 121, 112, 101])))), (11, (.c (.str (bs [79, 98, 106, 101, 99, 116])))), (12, (.c (.str (bs [82, 101, 102, 108, 101, 99, 116])))), (13, (.c (.str (bs [65, 114, 114, 97, 121])))), (14, (.c (.str (bs [80, 114, 111, 120, 121])))), (15, (.c (.str (bs [83, 116, 114, 105, 110, 103])))), (16, (.c (.str (bs [69, 114, 114, 111, 114])))), (17, (.c (.str (bs [84, 121, 112, 101, 69, 114, 114, 111, 114])))), (18, (.c (.str (bs [82, 97, 110, 103, 101, 69, 114, 114, 111, 114])))), (19, (.c (.str (bs [82, 101, 102, 101, 114, 101, 110, 99, 101, 69, 114, 114, 111, 114])))), (20, (.c (.str (bs [78, 117, 109, 98, 101, 114])))), (21, (.c (.str (bs [66, 111, 111, 108, 101, 97, 110])))), (22, (.c (.str (bs [83, 121, 109, 98, 111, 108])))), (23, (.c (.str (bs [112, 114, 105, 110, 116]))))]), none⟩,
      ⟨none, (.storea 24 (.t 0) (.t 1)), none⟩])
    .ret))
def realm_firsts.body : DC := realm_firsts.bodyX
def realm_firsts : FD := ⟨0, [.cella 0 24], realm_firsts.body⟩
/-- 168 bailiff/realm.functions -/
def realm_functions.bodyX : DC :=
  (.seq
   (.ops [
     ⟨some 0, (.alloca 0 .str (List.replicate 48 (bs []))), none⟩])
   (.seq
    (.ops [
      ⟨some 1, (.builda .str (List.replicate 48 (bs [])) [(0, (.c (.str (bs [79, 98, 106, 101, 99, 116, 46, 97, 115, 115, 105, 103, 110])))), (1, (.c (.str (bs [79, 98, 106, 101, 99, 116, 46, 99, 114, 101, 97, 116, 101])))), (2, (.c (.str (bs [79, 98, 106, 101, 99, 116, 46, 100, 101, 102, 105, 110, 101, 80, 114, 111, 112, 101, 114, 116, 121])))), (3, (.c (.str (bs [79, 98, 106, 101, 99, 116, 46, 102, 114, 101, 101, 122, 101])))), (4, (.c (.str (bs [79, 98, 106, 101, 99, 116, 46, 103, 101, 116, 79, 119, 110, 80, 114, 111, 112, 101, 114, 116, 121, 68, 101, 115, 99, 114, 105, 112, 116, 111, 114])))), (5, (.c (.str (bs [79, 98, 106, 101, 99, 116, 46, 103, 101, 116, 79, 119, 110, 80, 114, 111, 112, 101, 114, 116, 121, 78, 97, 109, 101, 115])))), (6, (.c (.str (bs [79, 98, 106, 101, 99, 116, 46, 103, 101, 116, 79, 119, 110, 80, 114, 111, 112, 101, 114, 116, 121, 83, 121, 109, 98, 111, 108, 115])))), (7, (.c (.str (bs [79, 98, 106, 101, 99, 116, 46, 103, 101, 116, 80, 114, 111, 116, 111, 116, 121, 112, 101, 79, 102])))), (8, (.c (.str (bs [79, 98, 106, 101, 99, 116, 46, 105, 115])))), (9, (.c (.str (bs [79, 98, 106, 101, 99, 116, 46, 105, 115, 69, 120, 116, 101, 110, 115, 105, 98, 108, 101])))), (10, (.c (.str (bs [79, 98, 106, 101, 99, 116, 46, 105, 115, 70, 114, 111, 122, 101, 110])))), (11, (.c (.str (bs [79, 98, 106, 101, 99, 116, 46, 105, 115, 83, 101, 97, 108, 101, 100])))), (12, (.c (.str (bs [79, 98, 106, 101, 99, 116, 46, 107, 101, 121, 115])))), (13, (.c (.str (bs [79, 98, 106, 101, 99, 116, 46, 112, 114, 101, 118, 101, 110, 116, 69, 120, 116, 101, 110, 115, 105, 111, 110, 115])))), (14, (.c (.str (bs [79, 98, 106, 101, 99, 116, 46, 115, 101, 97, 108])))), (15, (.c (.str (bs [79, 98, 106, 101, 99, 116, 46, 115, 101, 116, 80, 114, 111, 116, 111, 116, 121, 112, 101, 79, 102])))), (16, (.c (.str (bs [82, 101, 102, 108, 101, 99, 116, 46, 97, 112, 112, 108, 121])))), (17, (.c (.str (bs [82, 101, 102, 108, 101, 99, 116, 46, 99, 111, 110, 115, 116, 114, 117, 99, 116])))), (18, (.c (.str (bs [82, 101, 102, 108, 101, 99, 116, 46, 100, 101, 102, 105, 110, 101, 80, 114, 111, 112, 101, 114, 116, 121])))), (19, (.c (.str (bs [82, 101, 102, 108, 101, 99, 116, 46, 100, 101, 108, 101, 116, 101, 80, 114, 111, 112, 101, 114, 116, 121])))), (20, (.c (.str (bs [82, 101, 102, 108, 101, 99, 116, 46, 103, 101, 116])))), (21, (.c (.str (bs [82, 101, 102, 108, 101, 99, 116, 46, 103, 101, 116, 79, 119, 110, 80, 114, 111, 112, 101, 114, 116, 121, 68, 101, 115, 99, 114, 105, 112, 116, 111, 114])))), (22, (.c (.str (bs [82, 101, 102, 108, 101, 99, 116, 46, 103, 101, 116, 80, 114, 111, 116, 111, 116, 121, 112, 101, 79, 102])))), (23, (.c (.str (bs [82, 101, 102, 108, 101, 99, 116, 46, 104, 97, 115])))), (24, (.c (.str (bs [82, 101, 102, 108, 101, 99, 116, 46, 105, 115, 69, 120, 116, 101, 110, 115, 105, 98, 108, 101])))), (25, (.c (.str (bs [82, 101, 102, 108, 101, 99, 116, 46, 111, 119, 110, 75, 101, 121, 115])))), (26, (.c (.str (bs [82, 101, 102, 108, 101, 99, 116, 46, 112, 114, 101, 118, 101, 110, 116, 69, 120, 116, 101, 110, 115, 105, 111, 110, 115])))), (27, (.c (.str (bs [82, 101, 102, 108, 101, 99, 116, 46, 115, 101, 116])))), (28, (.c (.str (bs [82, 101, 102, 108, 101, 99, 116, 46, 115, 101, 116, 80, 114, 111, 116, 111, 116, 121, 112, 101, 79, 102])))), (29, (.c (.str (bs [80, 114, 111, 120, 121, 46, 114, 101, 118, 111, 99, 97, 98, 108, 101])))), (30, (.c (.str (bs [65, 114, 114, 97, 121, 46, 105, 115, 65, 114, 114, 97, 121])))), (31, (.c (.str (bs [79, 98, 106, 101, 99, 116, 46, 112, 114, 111, 116, 111, 116, 121, 112, 101, 46, 104, 97, 115, 79, 119, 110, 80, 114, 111, 112, 101, 114, 116, 121])))), (32, (.c (.str (bs [79, 98, 106, 101, 99, 116, 46, 112, 114, 111, 116, 111, 116, 121, 112, 101, 46, 116, 111, 83, 116, 114, 105, 110, 103])))), (33, (.c (.str (bs [79, 98, 106, 101, 99, 116, 46, 112, 114, 111, 116, 111, 116, 121, 112, 101, 46, 118, 97, 108, 117, 101, 79, 102])))), (34, (.c (.str (bs [70, 117, 110, 99, 116, 105, 111, 110, 46, 112, 114, 111, 116, 111, 116, 121, 112, 101, 46, 97, 112, 112, 108, 121])))), (35, (.c (.str (bs [70, 117, 110, 99, 116, 105, 111, 110, 46, 112, 114, 111, 116, 111, 116, 121, 112, 101, 46, 99, 97, 108, 108])))), (36, (.c (.str (bs [65, 114, 114, 97, 121, 46, 112, 114, 111, 116, 111, 116, 121, 112, 101, 46, 112, 117, 115, 104])))), (37, (.c (.str (bs [83, 116, 114, 105, 110, 103, 46, 112, 114, 111, 116, 111, 116, 121, 112, 101, 46, 105, 110, 100, 101, 120, 79, 102])))), (38, (.c (.str (bs [83, 116, 114, 105, 110, 103, 46, 112, 114, 111, 116, 111, 116, 121, 112, 101, 46, 115, 108, 105, 99, 101])))), (39, (.c (.str (bs [83, 116, 114, 105, 110, 103, 46, 112, 114, 111, 116, 111, 116, 121, 112, 101, 46, 116, 111, 83, 116, 114, 105, 110, 103])))), (40, (.c (.str (bs [83, 116, 114, 105, 110, 103, 46, 112, 114, 111, 116, 111, 116, 121, 112, 101, 46, 118, 97, 108, 117, 101, 79, 102])))), (41, (.c (.str (bs [78, 117, 109, 98, 101, 114, 46, 112, 114, 111, 116, 111, 116, 121, 112, 101, 46, 116, 111, 83, 116, 114, 105, 110, 103])))), (42, (.c (.str (bs [78, 117, 109, 98, 101, 114, 46, 112, 114, 111, 116, 111, 116, 121, 112, 101, 46, 118, 97, 108, 117, 101, 79, 102])))), (43, (.c (.str (bs [66, 111, 111, 108, 101, 97, 110, 46, 112, 114, 111, 116, 111, 116, 121, 112, 101, 46, 116, 111, 83, 116, 114, 105, 110, 103])))), (44, (.c (.str (bs [66, 111, 111, 108, 101, 97, 110, 46, 112, 114, 111, 116, 111, 116, 121, 112, 101, 46, 118, 97, 108, 117, 101, 79, 102])))), (45, (.c (.str (bs [83, 121, 109, 98, 111, 108, 46, 112, 114, 111, 116, 111, 116, 121, 112, 101, 46, 116, 111, 83, 116, 114, 105, 110, 103])))), (46, (.c (.str (bs [83, 121, 109, 98, 111, 108, 46, 112, 114, 111, 116, 111, 116, 121, 112, 101, 46, 118, 97, 108, 117, 101, 79, 102])))), (47, (.c (.str (bs [69, 114, 114, 111, 114, 46, 112, 114, 111, 116, 111, 116, 121, 112, 101, 46, 116, 111, 83, 116, 114, 105, 110, 103]))))]), none⟩,
      ⟨none, (.storea 48 (.t 0) (.t 1)), none⟩])
    .ret))
def realm_functions.body : DC := realm_functions.bodyX
def realm_functions : FD := ⟨0, [.cella 0 48], realm_functions.body⟩
/-- 170 bailiff/realm.kind -/
def realm_kind.tX0 (t0 t1 t2 t3 : DC) : DC :=
  (.ops [
    ⟨some 3, (.mv (.t 9)), none⟩])
def realm_kind.t0 : DC := realm_kind.tX0 .skip .skip .skip .skip
def realm_kind.tX1 (t0 t1 t2 t3 : DC) : DC :=
  (.ops [
    ⟨some 10, (.mv (.t 16)), none⟩])
def realm_kind.t1 : DC := realm_kind.tX1 realm_kind.t0 .skip .skip .skip
def realm_kind.tX2 (t0 t1 t2 t3 : DC) : DC :=
        (.cond (.t 10)
         (.seq
          (.ops [
            ⟨some 2, (.mv (.c (.int .u8 7))), none⟩])
          .ret)
         .skip)
def realm_kind.t2 : DC := realm_kind.tX2 realm_kind.t0 realm_kind.t1 .skip .skip
def realm_kind.sX2 (t : DC) : DC := .kp [10] [] t
def realm_kind.tX3 (t0 t1 t2 t3 : DC) : DC :=
      (.cond (.t 3)
       (.seq
        (.ops [
          ⟨some 2, (.mv (.c (.int .u8 8))), none⟩])
        .ret)
       (.seq
  (.opsc [
    ⟨some 11, (.mv (.t 0)), none⟩,
    ⟨some 12, (.bini .eql (.t 11) (.c (.int .i64 1))), none⟩,
    ⟨some 13, (.mv (.t 12)), none⟩,
    ⟨some 14, (.mv (.t 0)), some (13, false)⟩,
    ⟨some 15, (.bini .geq (.t 14) (.c (.int .i64 20))), some (13, false)⟩,
    ⟨some 16, (.pick (.t 13) (.c (.bool true)) (.t 15)), none⟩] [16] [] t1)
        (realm_kind.sX2 t2)))
def realm_kind.t3 : DC := realm_kind.tX3 realm_kind.t0 realm_kind.t1 realm_kind.t2 .skip
def realm_kind.sX3 (t : DC) : DC := .kp [0, 3] [] t
def realm_kind.bodyX (t0 t1 t2 t3 : DC) : DC :=
  (.seq
   (.ops [
     ⟨some 2, (.mv (.c (.int .u8 0))), none⟩])
   (.seq
    (.block 0
     (.seq
  (.opsc [
    ⟨some 4, (.mv (.t 0)), none⟩,
    ⟨some 5, (.bini .geq (.t 4) (.c (.int .i64 14))), none⟩,
    ⟨some 6, (.mv (.t 5)), none⟩,
    ⟨some 7, (.mv (.t 0)), some (6, true)⟩,
    ⟨some 8, (.bini .lss (.t 7) (.c (.int .i64 20))), some (6, true)⟩,
    ⟨some 9, (.pick (.t 6) (.t 8) (.c (.bool false))), none⟩] [0, 9] [] t0)
      (realm_kind.sX3 t3)))
    (.seq
     (.ops [
       ⟨some 2, (.mv (.c (.int .u8 6))), none⟩])
     .ret)))
def realm_kind.body : DC := realm_kind.bodyX realm_kind.t0 realm_kind.t1 realm_kind.t2 realm_kind.t3
def realm_kind : FD := ⟨1, [.tmp 2], realm_kind.body⟩
/-- 172 bailiff/realm.object -/
def realm_object.bodyX : DC :=
  (.seq
   (.ops [
     ⟨some 2, (.alloc 2 [(.int .u8 0), (.float 0), (.str (bs [])), (.int .i64 0)] none), none⟩])
   (.seq
    (.ops [
      ⟨some 3, (.mv (.t 0)), none⟩,
      ⟨some 4, (.call 170 [(.t 3)] (.int .u8) []), none⟩,
      ⟨some 5, (.mv (.t 0)), none⟩,
      ⟨some 6, (.build [(.int .u8 0), (.float 0), (.str (bs [])), (.int .i64 0)] [((0, 1), (.t 4)), ((3, 1), (.t 5))]), none⟩,
      ⟨none, (.store 4 (.t 2) (.t 6)), none⟩])
    .ret))
def realm_object.body : DC := realm_object.bodyX
def realm_object : FD := ⟨1, [.cell 2 (some 4)], realm_object.body⟩
/-- 173 bailiff/realm.place -/
def realm_place.bX0 (t0 : DC) : DC :=
  (.seq
   (.ops [
     ⟨some 7, (.bini .lss (.t 6) (.c (.int .i64 24))), none⟩])
   (.seq
    (.cond (.t 7)
     .skip
     (.exit 0))
    (.seq
     (.block 1
      (.seq
       (.ops [
         ⟨some 8, (.mv (.t 6)), none⟩,
         ⟨some 4, (.mv (.t 8)), none⟩])
       (.seq
        (.ops [
          ⟨some 9, (.mv (.t 4)), none⟩,
          ⟨some 10, (.iaddr true 24 1 (.t 3) (.t 9)), none⟩,
          ⟨some 11, (.load none (.t 10)), none⟩,
          ⟨some 12, (.mv (.t 0)), none⟩,
          ⟨some 13, (.bins .eql (.t 11) (.t 12)), none⟩])
        (.cond (.t 13)
         (.seq
          (.ops [
            ⟨some 14, (.mv (.t 4)), none⟩,
            ⟨some 2, (.mv (.t 14)), none⟩])
          .ret)
         .skip))))
     (.ops [
       ⟨some 15, (.bini .add (.t 6) (.c (.int .i64 1))), none⟩,
       ⟨some 6, (.mv (.t 15)), none⟩]))))
def realm_place.tX0 (t0 : DC) : DC :=
     (.seq
      (.ops [
        ⟨some 2, (.mv (.c (.int .i64 (-1)))), none⟩])
      .ret)
def realm_place.t0 : DC := realm_place.tX0 .skip
def realm_place.sX0 (t : DC) : DC := .kp [] [] t
def realm_place.bodyX (t0 : DC) : DC :=
  (.seq
   (.ops [
     ⟨some 2, (.mv (.c (.int .i64 0))), none⟩])
   (.seq
    (.ops [
      ⟨some 5, (.call 167 [] (.arr .str) []), none⟩,
      ⟨some 3, (.alloca 3 .str (List.replicate 24 (bs []))), none⟩,
      ⟨none, (.storea 24 (.t 3) (.t 5)), none⟩])
    (.seq
     (.seq
      (.ops [
        ⟨some 6, (.mv (.c (.int .i64 0))), none⟩])
      (.block 0
       (.loop [0, 3, 6] [3] (realm_place.bX0 t0))))
     (realm_place.sX0 t0))))
def realm_place.body : DC := realm_place.bodyX realm_place.t0
def realm_place : FD := ⟨1, [.tmp 2], realm_place.body⟩
/-- 183 bailiff/value.Num -/
def value_Num.bodyX : DC :=
  (.seq
   (.ops [
     ⟨some 2, (.alloc 2 [(.int .u8 0), (.float 0), (.str (bs [])), (.int .i64 0)] none), none⟩])
   (.seq
    (.ops [
      ⟨some 3, (.mv (.t 0)), none⟩,
      ⟨some 4, (.build [(.int .u8 0), (.float 0), (.str (bs [])), (.int .i64 0)] [((0, 1), (.c (.int .u8 3))), ((1, 1), (.t 3))]), none⟩,
      ⟨none, (.store 4 (.t 2) (.t 4)), none⟩])
    .ret))
def value_Num.body : DC := value_Num.bodyX
def value_Num : FD := ⟨1, [.cell 2 (some 4)], value_Num.body⟩
/-- 211 math.NaN -/
def math_NaN.bodyX : DC :=
  (.seq
   (.ops [
     ⟨some 0, (.mv (.c (.float 0))), none⟩])
   (.seq
    (.ops [
      ⟨some 1, (.call 210 [(.c (.int .u64 9221120237041090561))] .float []), none⟩,
      ⟨some 0, (.mv (.t 1)), none⟩])
    .ret))
def math_NaN.body : DC := math_NaN.bodyX
def math_NaN : FD := ⟨0, [.tmp 0], math_NaN.body⟩
end C
end Bz
