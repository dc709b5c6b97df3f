/- The first objects, as plain data (printed). -/
import Derived.Test.YtjlgkjmbndmkjabDev4
set_option linter.all false
set_option maxRecDepth 100000
namespace Bz
open Go
namespace NL
def z : Val := ⟨0, 0, bs [], 0⟩
def p0 : List Prp :=
    ⟨⟨(bs [104, 97, 115, 79, 119, 110, 80, 114, 111, 112, 101, 114, 116, 121]), 0⟩, ⟨51, ⟨7, 0, (bs []), 55⟩, z, z, true, false, true⟩⟩ ::
    ⟨⟨(bs [116, 111, 83, 116, 114, 105, 110, 103]), 0⟩, ⟨51, ⟨7, 0, (bs []), 56⟩, z, z, true, false, true⟩⟩ ::
    ⟨⟨(bs [118, 97, 108, 117, 101, 79, 102]), 0⟩, ⟨51, ⟨7, 0, (bs []), 57⟩, z, z, true, false, true⟩⟩ ::
    []
def o0 : Obj := ⟨1, ⟨1, 0, (bs []), 0⟩, true, p0, z, z, (bs []), false, false⟩
def p1 : List Prp :=
    ⟨⟨(bs [97, 112, 112, 108, 121]), 0⟩, ⟨51, ⟨7, 0, (bs []), 58⟩, z, z, true, false, true⟩⟩ ::
    ⟨⟨(bs [99, 97, 108, 108]), 0⟩, ⟨51, ⟨7, 0, (bs []), 59⟩, z, z, true, false, true⟩⟩ ::
    []
def o1 : Obj := ⟨5, ⟨6, 0, (bs []), 0⟩, true, p1, z, z, (bs []), true, false⟩
def p2 : List Prp :=
    ⟨⟨(bs [112, 117, 115, 104]), 0⟩, ⟨51, ⟨7, 0, (bs []), 60⟩, z, z, true, false, true⟩⟩ ::
    []
def o2 : Obj := ⟨1, ⟨6, 0, (bs []), 0⟩, true, p2, z, z, (bs []), false, false⟩
def p3 : List Prp :=
    ⟨⟨(bs [99, 111, 110, 115, 116, 114, 117, 99, 116, 111, 114]), 0⟩, ⟨51, ⟨8, 0, (bs []), 15⟩, z, z, true, false, true⟩⟩ ::
    ⟨⟨(bs [105, 110, 100, 101, 120, 79, 102]), 0⟩, ⟨51, ⟨7, 0, (bs []), 61⟩, z, z, true, false, true⟩⟩ ::
    ⟨⟨(bs [115, 108, 105, 99, 101]), 0⟩, ⟨51, ⟨7, 0, (bs []), 62⟩, z, z, true, false, true⟩⟩ ::
    ⟨⟨(bs [116, 111, 83, 116, 114, 105, 110, 103]), 0⟩, ⟨51, ⟨7, 0, (bs []), 63⟩, z, z, true, false, true⟩⟩ ::
    ⟨⟨(bs [118, 97, 108, 117, 101, 79, 102]), 0⟩, ⟨51, ⟨7, 0, (bs []), 64⟩, z, z, true, false, true⟩⟩ ::
    []
def o3 : Obj := ⟨1, ⟨6, 0, (bs []), 0⟩, true, p3, z, z, (bs []), false, false⟩
def p4 : List Prp :=
    ⟨⟨(bs [99, 111, 110, 115, 116, 114, 117, 99, 116, 111, 114]), 0⟩, ⟨51, ⟨7, 0, (bs []), 20⟩, z, z, true, false, true⟩⟩ ::
    ⟨⟨(bs [116, 111, 83, 116, 114, 105, 110, 103]), 0⟩, ⟨51, ⟨7, 0, (bs []), 65⟩, z, z, true, false, true⟩⟩ ::
    ⟨⟨(bs [118, 97, 108, 117, 101, 79, 102]), 0⟩, ⟨51, ⟨7, 0, (bs []), 66⟩, z, z, true, false, true⟩⟩ ::
    []
def o4 : Obj := ⟨1, ⟨6, 0, (bs []), 0⟩, true, p4, z, z, (bs []), false, false⟩
def p5 : List Prp :=
    ⟨⟨(bs [99, 111, 110, 115, 116, 114, 117, 99, 116, 111, 114]), 0⟩, ⟨51, ⟨7, 0, (bs []), 21⟩, z, z, true, false, true⟩⟩ ::
    ⟨⟨(bs [116, 111, 83, 116, 114, 105, 110, 103]), 0⟩, ⟨51, ⟨7, 0, (bs []), 67⟩, z, z, true, false, true⟩⟩ ::
    ⟨⟨(bs [118, 97, 108, 117, 101, 79, 102]), 0⟩, ⟨51, ⟨7, 0, (bs []), 68⟩, z, z, true, false, true⟩⟩ ::
    []
def o5 : Obj := ⟨1, ⟨6, 0, (bs []), 0⟩, true, p5, z, z, (bs []), false, false⟩
def p6 : List Prp :=
    ⟨⟨(bs [99, 111, 110, 115, 116, 114, 117, 99, 116, 111, 114]), 0⟩, ⟨51, ⟨7, 0, (bs []), 22⟩, z, z, true, false, true⟩⟩ ::
    ⟨⟨(bs [116, 111, 83, 116, 114, 105, 110, 103]), 0⟩, ⟨51, ⟨7, 0, (bs []), 69⟩, z, z, true, false, true⟩⟩ ::
    ⟨⟨(bs [118, 97, 108, 117, 101, 79, 102]), 0⟩, ⟨51, ⟨7, 0, (bs []), 70⟩, z, z, true, false, true⟩⟩ ::
    []
def o6 : Obj := ⟨1, ⟨6, 0, (bs []), 0⟩, true, p6, z, z, (bs []), false, false⟩
def p7 : List Prp :=
    ⟨⟨(bs [99, 111, 110, 115, 116, 114, 117, 99, 116, 111, 114]), 0⟩, ⟨51, ⟨8, 0, (bs []), 16⟩, z, z, true, false, true⟩⟩ ::
    ⟨⟨(bs [110, 97, 109, 101]), 0⟩, ⟨51, ⟨4, 0, (bs [69, 114, 114, 111, 114]), 0⟩, z, z, true, false, true⟩⟩ ::
    ⟨⟨(bs [109, 101, 115, 115, 97, 103, 101]), 0⟩, ⟨51, ⟨4, 0, (bs []), 0⟩, z, z, true, false, true⟩⟩ ::
    ⟨⟨(bs [116, 111, 83, 116, 114, 105, 110, 103]), 0⟩, ⟨51, ⟨7, 0, (bs []), 71⟩, z, z, true, false, true⟩⟩ ::
    []
def o7 : Obj := ⟨1, ⟨6, 0, (bs []), 0⟩, true, p7, z, z, (bs []), false, false⟩
def p8 : List Prp :=
    ⟨⟨(bs [99, 111, 110, 115, 116, 114, 117, 99, 116, 111, 114]), 0⟩, ⟨51, ⟨8, 0, (bs []), 17⟩, z, z, true, false, true⟩⟩ ::
    ⟨⟨(bs [110, 97, 109, 101]), 0⟩, ⟨51, ⟨4, 0, (bs [84, 121, 112, 101, 69, 114, 114, 111, 114]), 0⟩, z, z, true, false, true⟩⟩ ::
    ⟨⟨(bs [109, 101, 115, 115, 97, 103, 101]), 0⟩, ⟨51, ⟨4, 0, (bs []), 0⟩, z, z, true, false, true⟩⟩ ::
    []
def o8 : Obj := ⟨1, ⟨6, 0, (bs []), 7⟩, true, p8, z, z, (bs []), false, false⟩
def p9 : List Prp :=
    ⟨⟨(bs [99, 111, 110, 115, 116, 114, 117, 99, 116, 111, 114]), 0⟩, ⟨51, ⟨8, 0, (bs []), 18⟩, z, z, true, false, true⟩⟩ ::
    ⟨⟨(bs [110, 97, 109, 101]), 0⟩, ⟨51, ⟨4, 0, (bs [82, 97, 110, 103, 101, 69, 114, 114, 111, 114]), 0⟩, z, z, true, false, true⟩⟩ ::
    ⟨⟨(bs [109, 101, 115, 115, 97, 103, 101]), 0⟩, ⟨51, ⟨4, 0, (bs []), 0⟩, z, z, true, false, true⟩⟩ ::
    []
def o9 : Obj := ⟨1, ⟨6, 0, (bs []), 7⟩, true, p9, z, z, (bs []), false, false⟩
def p10 : List Prp :=
    ⟨⟨(bs [99, 111, 110, 115, 116, 114, 117, 99, 116, 111, 114]), 0⟩, ⟨51, ⟨8, 0, (bs []), 19⟩, z, z, true, false, true⟩⟩ ::
    ⟨⟨(bs [110, 97, 109, 101]), 0⟩, ⟨51, ⟨4, 0, (bs [82, 101, 102, 101, 114, 101, 110, 99, 101, 69, 114, 114, 111, 114]), 0⟩, z, z, true, false, true⟩⟩ ::
    ⟨⟨(bs [109, 101, 115, 115, 97, 103, 101]), 0⟩, ⟨51, ⟨4, 0, (bs []), 0⟩, z, z, true, false, true⟩⟩ ::
    []
def o10 : Obj := ⟨1, ⟨6, 0, (bs []), 7⟩, true, p10, z, z, (bs []), false, false⟩
def p11 : List Prp :=
    ⟨⟨(bs [97, 115, 115, 105, 103, 110]), 0⟩, ⟨51, ⟨7, 0, (bs []), 24⟩, z, z, true, false, true⟩⟩ ::
    ⟨⟨(bs [99, 114, 101, 97, 116, 101]), 0⟩, ⟨51, ⟨7, 0, (bs []), 25⟩, z, z, true, false, true⟩⟩ ::
    ⟨⟨(bs [100, 101, 102, 105, 110, 101, 80, 114, 111, 112, 101, 114, 116, 121]), 0⟩, ⟨51, ⟨7, 0, (bs []), 26⟩, z, z, true, false, true⟩⟩ ::
    ⟨⟨(bs [102, 114, 101, 101, 122, 101]), 0⟩, ⟨51, ⟨7, 0, (bs []), 27⟩, z, z, true, false, true⟩⟩ ::
    ⟨⟨(bs [103, 101, 116, 79, 119, 110, 80, 114, 111, 112, 101, 114, 116, 121, 68, 101, 115, 99, 114, 105, 112, 116, 111, 114]), 0⟩, ⟨51, ⟨7, 0, (bs []), 28⟩, z, z, true, false, true⟩⟩ ::
    ⟨⟨(bs [103, 101, 116, 79, 119, 110, 80, 114, 111, 112, 101, 114, 116, 121, 78, 97, 109, 101, 115]), 0⟩, ⟨51, ⟨7, 0, (bs []), 29⟩, z, z, true, false, true⟩⟩ ::
    ⟨⟨(bs [103, 101, 116, 79, 119, 110, 80, 114, 111, 112, 101, 114, 116, 121, 83, 121, 109, 98, 111, 108, 115]), 0⟩, ⟨51, ⟨7, 0, (bs []), 30⟩, z, z, true, false, true⟩⟩ ::
    ⟨⟨(bs [103, 101, 116, 80, 114, 111, 116, 111, 116, 121, 112, 101, 79, 102]), 0⟩, ⟨51, ⟨7, 0, (bs []), 31⟩, z, z, true, false, true⟩⟩ ::
    ⟨⟨(bs [105, 115]), 0⟩, ⟨51, ⟨7, 0, (bs []), 32⟩, z, z, true, false, true⟩⟩ ::
    ⟨⟨(bs [105, 115, 69, 120, 116, 101, 110, 115, 105, 98, 108, 101]), 0⟩, ⟨51, ⟨7, 0, (bs []), 33⟩, z, z, true, false, true⟩⟩ ::
    ⟨⟨(bs [105, 115, 70, 114, 111, 122, 101, 110]), 0⟩, ⟨51, ⟨7, 0, (bs []), 34⟩, z, z, true, false, true⟩⟩ ::
    ⟨⟨(bs [105, 115, 83, 101, 97, 108, 101, 100]), 0⟩, ⟨51, ⟨7, 0, (bs []), 35⟩, z, z, true, false, true⟩⟩ ::
    ⟨⟨(bs [107, 101, 121, 115]), 0⟩, ⟨51, ⟨7, 0, (bs []), 36⟩, z, z, true, false, true⟩⟩ ::
    ⟨⟨(bs [112, 114, 101, 118, 101, 110, 116, 69, 120, 116, 101, 110, 115, 105, 111, 110, 115]), 0⟩, ⟨51, ⟨7, 0, (bs []), 37⟩, z, z, true, false, true⟩⟩ ::
    ⟨⟨(bs [115, 101, 97, 108]), 0⟩, ⟨51, ⟨7, 0, (bs []), 38⟩, z, z, true, false, true⟩⟩ ::
    ⟨⟨(bs [115, 101, 116, 80, 114, 111, 116, 111, 116, 121, 112, 101, 79, 102]), 0⟩, ⟨51, ⟨7, 0, (bs []), 39⟩, z, z, true, false, true⟩⟩ ::
    []
def o11 : Obj := ⟨1, ⟨6, 0, (bs []), 0⟩, true, p11, z, z, (bs []), false, false⟩
def p12 : List Prp :=
    ⟨⟨(bs [97, 112, 112, 108, 121]), 0⟩, ⟨51, ⟨7, 0, (bs []), 40⟩, z, z, true, false, true⟩⟩ ::
    ⟨⟨(bs [99, 111, 110, 115, 116, 114, 117, 99, 116]), 0⟩, ⟨51, ⟨7, 0, (bs []), 41⟩, z, z, true, false, true⟩⟩ ::
    ⟨⟨(bs [100, 101, 102, 105, 110, 101, 80, 114, 111, 112, 101, 114, 116, 121]), 0⟩, ⟨51, ⟨7, 0, (bs []), 42⟩, z, z, true, false, true⟩⟩ ::
    ⟨⟨(bs [100, 101, 108, 101, 116, 101, 80, 114, 111, 112, 101, 114, 116, 121]), 0⟩, ⟨51, ⟨7, 0, (bs []), 43⟩, z, z, true, false, true⟩⟩ ::
    ⟨⟨(bs [103, 101, 116]), 0⟩, ⟨51, ⟨7, 0, (bs []), 44⟩, z, z, true, false, true⟩⟩ ::
    ⟨⟨(bs [103, 101, 116, 79, 119, 110, 80, 114, 111, 112, 101, 114, 116, 121, 68, 101, 115, 99, 114, 105, 112, 116, 111, 114]), 0⟩, ⟨51, ⟨7, 0, (bs []), 45⟩, z, z, true, false, true⟩⟩ ::
    ⟨⟨(bs [103, 101, 116, 80, 114, 111, 116, 111, 116, 121, 112, 101, 79, 102]), 0⟩, ⟨51, ⟨7, 0, (bs []), 46⟩, z, z, true, false, true⟩⟩ ::
    ⟨⟨(bs [104, 97, 115]), 0⟩, ⟨51, ⟨7, 0, (bs []), 47⟩, z, z, true, false, true⟩⟩ ::
    ⟨⟨(bs [105, 115, 69, 120, 116, 101, 110, 115, 105, 98, 108, 101]), 0⟩, ⟨51, ⟨7, 0, (bs []), 48⟩, z, z, true, false, true⟩⟩ ::
    ⟨⟨(bs [111, 119, 110, 75, 101, 121, 115]), 0⟩, ⟨51, ⟨7, 0, (bs []), 49⟩, z, z, true, false, true⟩⟩ ::
    ⟨⟨(bs [112, 114, 101, 118, 101, 110, 116, 69, 120, 116, 101, 110, 115, 105, 111, 110, 115]), 0⟩, ⟨51, ⟨7, 0, (bs []), 50⟩, z, z, true, false, true⟩⟩ ::
    ⟨⟨(bs [115, 101, 116]), 0⟩, ⟨51, ⟨7, 0, (bs []), 51⟩, z, z, true, false, true⟩⟩ ::
    ⟨⟨(bs [115, 101, 116, 80, 114, 111, 116, 111, 116, 121, 112, 101, 79, 102]), 0⟩, ⟨51, ⟨7, 0, (bs []), 52⟩, z, z, true, false, true⟩⟩ ::
    []
def o12 : Obj := ⟨1, ⟨6, 0, (bs []), 0⟩, true, p12, z, z, (bs []), false, false⟩
def p13 : List Prp :=
    ⟨⟨(bs [105, 115, 65, 114, 114, 97, 121]), 0⟩, ⟨51, ⟨7, 0, (bs []), 54⟩, z, z, true, false, true⟩⟩ ::
    []
def o13 : Obj := ⟨1, ⟨6, 0, (bs []), 0⟩, true, p13, z, z, (bs []), false, false⟩
def p14 : List Prp :=
    ⟨⟨(bs [114, 101, 118, 111, 99, 97, 98, 108, 101]), 0⟩, ⟨51, ⟨7, 0, (bs []), 53⟩, z, z, true, false, true⟩⟩ ::
    []
def o14 : Obj := ⟨5, ⟨7, 0, (bs []), 1⟩, true, p14, z, z, (bs []), true, true⟩
def p15 : List Prp :=
    ⟨⟨(bs [112, 114, 111, 116, 111, 116, 121, 112, 101]), 0⟩, ⟨51, ⟨6, 0, (bs []), 3⟩, z, z, false, false, false⟩⟩ ::
    []
def o15 : Obj := ⟨5, ⟨7, 0, (bs []), 1⟩, true, p15, z, z, (bs []), true, true⟩
def p16 : List Prp :=
    ⟨⟨(bs [112, 114, 111, 116, 111, 116, 121, 112, 101]), 0⟩, ⟨51, ⟨6, 0, (bs []), 7⟩, z, z, false, false, false⟩⟩ ::
    []
def o16 : Obj := ⟨5, ⟨7, 0, (bs []), 1⟩, true, p16, z, z, (bs []), true, true⟩
def p17 : List Prp :=
    ⟨⟨(bs [112, 114, 111, 116, 111, 116, 121, 112, 101]), 0⟩, ⟨51, ⟨6, 0, (bs []), 8⟩, z, z, false, false, false⟩⟩ ::
    []
def o17 : Obj := ⟨5, ⟨7, 0, (bs []), 1⟩, true, p17, z, z, (bs []), true, true⟩
def p18 : List Prp :=
    ⟨⟨(bs [112, 114, 111, 116, 111, 116, 121, 112, 101]), 0⟩, ⟨51, ⟨6, 0, (bs []), 9⟩, z, z, false, false, false⟩⟩ ::
    []
def o18 : Obj := ⟨5, ⟨7, 0, (bs []), 1⟩, true, p18, z, z, (bs []), true, true⟩
def p19 : List Prp :=
    ⟨⟨(bs [112, 114, 111, 116, 111, 116, 121, 112, 101]), 0⟩, ⟨51, ⟨6, 0, (bs []), 10⟩, z, z, false, false, false⟩⟩ ::
    []
def o19 : Obj := ⟨5, ⟨7, 0, (bs []), 1⟩, true, p19, z, z, (bs []), true, true⟩
def p20 : List Prp :=
    ⟨⟨(bs [112, 114, 111, 116, 111, 116, 121, 112, 101]), 0⟩, ⟨51, ⟨6, 0, (bs []), 4⟩, z, z, false, false, false⟩⟩ ::
    []
def o20 : Obj := ⟨5, ⟨7, 0, (bs []), 1⟩, true, p20, z, z, (bs []), true, false⟩
def p21 : List Prp :=
    ⟨⟨(bs [112, 114, 111, 116, 111, 116, 121, 112, 101]), 0⟩, ⟨51, ⟨6, 0, (bs []), 5⟩, z, z, false, false, false⟩⟩ ::
    []
def o21 : Obj := ⟨5, ⟨7, 0, (bs []), 1⟩, true, p21, z, z, (bs []), true, false⟩
def p22 : List Prp :=
    ⟨⟨(bs [112, 114, 111, 116, 111, 116, 121, 112, 101]), 0⟩, ⟨51, ⟨6, 0, (bs []), 6⟩, z, z, false, false, false⟩⟩ ::
    ⟨⟨(bs [116, 111, 80, 114, 105, 109, 105, 116, 105, 118, 101]), 0⟩, ⟨51, ⟨5, 0, (bs []), 0⟩, z, z, false, false, false⟩⟩ ::
    []
def o22 : Obj := ⟨5, ⟨7, 0, (bs []), 1⟩, true, p22, z, z, (bs []), true, false⟩
def p23 : List Prp :=
    []
def o23 : Obj := ⟨5, ⟨7, 0, (bs []), 1⟩, true, p23, z, z, (bs []), true, false⟩
def p24 : List Prp :=
    []
def o24 : Obj := ⟨5, ⟨7, 0, (bs []), 1⟩, true, p24, z, z, (bs []), true, false⟩
def p25 : List Prp :=
    []
def o25 : Obj := ⟨5, ⟨7, 0, (bs []), 1⟩, true, p25, z, z, (bs []), true, false⟩
def p26 : List Prp :=
    []
def o26 : Obj := ⟨5, ⟨7, 0, (bs []), 1⟩, true, p26, z, z, (bs []), true, false⟩
def p27 : List Prp :=
    []
def o27 : Obj := ⟨5, ⟨7, 0, (bs []), 1⟩, true, p27, z, z, (bs []), true, false⟩
def p28 : List Prp :=
    []
def o28 : Obj := ⟨5, ⟨7, 0, (bs []), 1⟩, true, p28, z, z, (bs []), true, false⟩
def p29 : List Prp :=
    []
def o29 : Obj := ⟨5, ⟨7, 0, (bs []), 1⟩, true, p29, z, z, (bs []), true, false⟩
def p30 : List Prp :=
    []
def o30 : Obj := ⟨5, ⟨7, 0, (bs []), 1⟩, true, p30, z, z, (bs []), true, false⟩
def p31 : List Prp :=
    []
def o31 : Obj := ⟨5, ⟨7, 0, (bs []), 1⟩, true, p31, z, z, (bs []), true, false⟩
def p32 : List Prp :=
    []
def o32 : Obj := ⟨5, ⟨7, 0, (bs []), 1⟩, true, p32, z, z, (bs []), true, false⟩
def p33 : List Prp :=
    []
def o33 : Obj := ⟨5, ⟨7, 0, (bs []), 1⟩, true, p33, z, z, (bs []), true, false⟩
def p34 : List Prp :=
    []
def o34 : Obj := ⟨5, ⟨7, 0, (bs []), 1⟩, true, p34, z, z, (bs []), true, false⟩
def p35 : List Prp :=
    []
def o35 : Obj := ⟨5, ⟨7, 0, (bs []), 1⟩, true, p35, z, z, (bs []), true, false⟩
def p36 : List Prp :=
    []
def o36 : Obj := ⟨5, ⟨7, 0, (bs []), 1⟩, true, p36, z, z, (bs []), true, false⟩
def p37 : List Prp :=
    []
def o37 : Obj := ⟨5, ⟨7, 0, (bs []), 1⟩, true, p37, z, z, (bs []), true, false⟩
def p38 : List Prp :=
    []
def o38 : Obj := ⟨5, ⟨7, 0, (bs []), 1⟩, true, p38, z, z, (bs []), true, false⟩
def p39 : List Prp :=
    []
def o39 : Obj := ⟨5, ⟨7, 0, (bs []), 1⟩, true, p39, z, z, (bs []), true, false⟩
def p40 : List Prp :=
    []
def o40 : Obj := ⟨5, ⟨7, 0, (bs []), 1⟩, true, p40, z, z, (bs []), true, false⟩
def p41 : List Prp :=
    []
def o41 : Obj := ⟨5, ⟨7, 0, (bs []), 1⟩, true, p41, z, z, (bs []), true, false⟩
def p42 : List Prp :=
    []
def o42 : Obj := ⟨5, ⟨7, 0, (bs []), 1⟩, true, p42, z, z, (bs []), true, false⟩
def p43 : List Prp :=
    []
def o43 : Obj := ⟨5, ⟨7, 0, (bs []), 1⟩, true, p43, z, z, (bs []), true, false⟩
def p44 : List Prp :=
    []
def o44 : Obj := ⟨5, ⟨7, 0, (bs []), 1⟩, true, p44, z, z, (bs []), true, false⟩
def p45 : List Prp :=
    []
def o45 : Obj := ⟨5, ⟨7, 0, (bs []), 1⟩, true, p45, z, z, (bs []), true, false⟩
def p46 : List Prp :=
    []
def o46 : Obj := ⟨5, ⟨7, 0, (bs []), 1⟩, true, p46, z, z, (bs []), true, false⟩
def p47 : List Prp :=
    []
def o47 : Obj := ⟨5, ⟨7, 0, (bs []), 1⟩, true, p47, z, z, (bs []), true, false⟩
def p48 : List Prp :=
    []
def o48 : Obj := ⟨5, ⟨7, 0, (bs []), 1⟩, true, p48, z, z, (bs []), true, false⟩
def p49 : List Prp :=
    []
def o49 : Obj := ⟨5, ⟨7, 0, (bs []), 1⟩, true, p49, z, z, (bs []), true, false⟩
def p50 : List Prp :=
    []
def o50 : Obj := ⟨5, ⟨7, 0, (bs []), 1⟩, true, p50, z, z, (bs []), true, false⟩
def p51 : List Prp :=
    []
def o51 : Obj := ⟨5, ⟨7, 0, (bs []), 1⟩, true, p51, z, z, (bs []), true, false⟩
def p52 : List Prp :=
    []
def o52 : Obj := ⟨5, ⟨7, 0, (bs []), 1⟩, true, p52, z, z, (bs []), true, false⟩
def p53 : List Prp :=
    []
def o53 : Obj := ⟨5, ⟨7, 0, (bs []), 1⟩, true, p53, z, z, (bs []), true, false⟩
def p54 : List Prp :=
    []
def o54 : Obj := ⟨5, ⟨7, 0, (bs []), 1⟩, true, p54, z, z, (bs []), true, false⟩
def p55 : List Prp :=
    []
def o55 : Obj := ⟨5, ⟨7, 0, (bs []), 1⟩, true, p55, z, z, (bs []), true, false⟩
def p56 : List Prp :=
    []
def o56 : Obj := ⟨5, ⟨7, 0, (bs []), 1⟩, true, p56, z, z, (bs []), true, false⟩
def p57 : List Prp :=
    []
def o57 : Obj := ⟨5, ⟨7, 0, (bs []), 1⟩, true, p57, z, z, (bs []), true, false⟩
def p58 : List Prp :=
    []
def o58 : Obj := ⟨5, ⟨7, 0, (bs []), 1⟩, true, p58, z, z, (bs []), true, false⟩
def p59 : List Prp :=
    []
def o59 : Obj := ⟨5, ⟨7, 0, (bs []), 1⟩, true, p59, z, z, (bs []), true, false⟩
def p60 : List Prp :=
    []
def o60 : Obj := ⟨5, ⟨7, 0, (bs []), 1⟩, true, p60, z, z, (bs []), true, false⟩
def p61 : List Prp :=
    []
def o61 : Obj := ⟨5, ⟨7, 0, (bs []), 1⟩, true, p61, z, z, (bs []), true, false⟩
def p62 : List Prp :=
    []
def o62 : Obj := ⟨5, ⟨7, 0, (bs []), 1⟩, true, p62, z, z, (bs []), true, false⟩
def p63 : List Prp :=
    []
def o63 : Obj := ⟨5, ⟨7, 0, (bs []), 1⟩, true, p63, z, z, (bs []), true, false⟩
def p64 : List Prp :=
    []
def o64 : Obj := ⟨5, ⟨7, 0, (bs []), 1⟩, true, p64, z, z, (bs []), true, false⟩
def p65 : List Prp :=
    []
def o65 : Obj := ⟨5, ⟨7, 0, (bs []), 1⟩, true, p65, z, z, (bs []), true, false⟩
def p66 : List Prp :=
    []
def o66 : Obj := ⟨5, ⟨7, 0, (bs []), 1⟩, true, p66, z, z, (bs []), true, false⟩
def p67 : List Prp :=
    []
def o67 : Obj := ⟨5, ⟨7, 0, (bs []), 1⟩, true, p67, z, z, (bs []), true, false⟩
def p68 : List Prp :=
    []
def o68 : Obj := ⟨5, ⟨7, 0, (bs []), 1⟩, true, p68, z, z, (bs []), true, false⟩
def p69 : List Prp :=
    []
def o69 : Obj := ⟨5, ⟨7, 0, (bs []), 1⟩, true, p69, z, z, (bs []), true, false⟩
def p70 : List Prp :=
    []
def o70 : Obj := ⟨5, ⟨7, 0, (bs []), 1⟩, true, p70, z, z, (bs []), true, false⟩
def p71 : List Prp :=
    []
def o71 : Obj := ⟨5, ⟨7, 0, (bs []), 1⟩, true, p71, z, z, (bs []), true, false⟩
end NL
def newL : List Obj :=
    NL.o0 ::
    NL.o1 ::
    NL.o2 ::
    NL.o3 ::
    NL.o4 ::
    NL.o5 ::
    NL.o6 ::
    NL.o7 ::
    NL.o8 ::
    NL.o9 ::
    NL.o10 ::
    NL.o11 ::
    NL.o12 ::
    NL.o13 ::
    NL.o14 ::
    NL.o15 ::
    NL.o16 ::
    NL.o17 ::
    NL.o18 ::
    NL.o19 ::
    NL.o20 ::
    NL.o21 ::
    NL.o22 ::
    NL.o23 ::
    NL.o24 ::
    NL.o25 ::
    NL.o26 ::
    NL.o27 ::
    NL.o28 ::
    NL.o29 ::
    NL.o30 ::
    NL.o31 ::
    NL.o32 ::
    NL.o33 ::
    NL.o34 ::
    NL.o35 ::
    NL.o36 ::
    NL.o37 ::
    NL.o38 ::
    NL.o39 ::
    NL.o40 ::
    NL.o41 ::
    NL.o42 ::
    NL.o43 ::
    NL.o44 ::
    NL.o45 ::
    NL.o46 ::
    NL.o47 ::
    NL.o48 ::
    NL.o49 ::
    NL.o50 ::
    NL.o51 ::
    NL.o52 ::
    NL.o53 ::
    NL.o54 ::
    NL.o55 ::
    NL.o56 ::
    NL.o57 ::
    NL.o58 ::
    NL.o59 ::
    NL.o60 ::
    NL.o61 ::
    NL.o62 ::
    NL.o63 ::
    NL.o64 ::
    NL.o65 ::
    NL.o66 ::
    NL.o67 ::
    NL.o68 ::
    NL.o69 ::
    NL.o70 ::
    NL.o71 ::
    []
end Bz
