/- The programs over plain data, printed. -/
import Derived.Test.YtjlgkjmbndmkjabSpW
import Derived.KernelRfl
set_option linter.all false
set_option maxRecDepth 100000
set_option linter.unusedVariables false
namespace Bz
open Go
namespace S
def i_bytealg_LastIndexByteString.ts : Nat → DC
  | 0 => C.i_bytealg_LastIndexByteString.t0
  | _ => .skip
def i_bytealg_LastIndexByteString.L0 (t : Nat → DC) (R : Nat → List DV → Option DV) (m : Nat) (j0 : Nat) (a0 : ByteArray) (a1 : Int) (L0_7 : Int) : Option DV :=
  (iter (runC R m (C.i_bytealg_LastIndexByteString.bX0 (t 0))) [(0 : Nat), (1 : Nat), (5 : Nat)] [] j0 (St.mk [(0, (DV.str a0)), (1, (DV.int Go.IntKind.u8 a1)), (5, (DV.int Go.IntKind.i64 L0_7))] []) (kBlock (0 : Nat) (kSeq (runC R m (C.i_bytealg_LastIndexByteString.sX0 (t 0))) (kFin [(ResV.tmp (4 : Nat))]))))
def i_bytealg_LastIndexByteString.T0 (t : Nat → DC) (R : Nat → List DV → Option DV) (m : Nat) (a0 : ByteArray) (a1 : Int) : Option DV :=
  (runC R m (t 0) (St.mk [] []) (kFin [(ResV.tmp (4 : Nat))]))
def i_bytealg_LastIndexByteString.M (t : Nat → DC) (R : Nat → List DV → Option DV) (m : Nat) (a0 : ByteArray) (a1 : Int) : Option DV :=
  (i_bytealg_LastIndexByteString.L0 t R m m a0 a1 (Go.IntKind.wrap Go.IntKind.i64 ((@Nat.cast Int _ (ByteArray.size a0)) - (1 : Int))))
theorem i_bytealg_LastIndexByteString.mainX (t : Nat → DC) (R : Nat → List DV → Option DV) (m : Nat) (a0 : ByteArray) (a1 : Int) : (runC R m (C.i_bytealg_LastIndexByteString.bodyX (t 0)) (St.mk (numbered (0 : Nat) [(DV.str a0), (DV.int Go.IntKind.u8 a1)]) []) (kFin [(ResV.tmp (4 : Nat))])) = i_bytealg_LastIndexByteString.M t R m a0 a1 := by kernel_rfl
theorem i_bytealg_LastIndexByteString.run (n : Nat) (a0 : ByteArray) (a1 : Int) : runF D (n + 1) 204 [(DV.str a0), (DV.int Go.IntKind.u8 a1)] = i_bytealg_LastIndexByteString.M i_bytealg_LastIndexByteString.ts (runF D n) n a0 a1 :=
  (runF_code (fd := C.i_bytealg_LastIndexByteString) (by kernel_rfl) rfl).trans (i_bytealg_LastIndexByteString.mainX i_bytealg_LastIndexByteString.ts (runF D n) n a0 a1)
def i_bytealg_LastIndexByteString.L0E (t : Nat → DC) (R : Nat → List DV → Option DV) (m : Nat) (j0 : Nat) (a0 : ByteArray) (a1 : Int) (L0_7 : Int) : Option DV :=
  (cond (Decidable.decide (L0_7 ≥ (0 : Int))) (idx (Array.toList (ByteArray.data a0)) L0_7 (fun y10 => (cond ((@Nat.cast Int _ (UInt8.toNat y10)) == a1) (Option.some (DV.int Go.IntKind.i64 L0_7)) (i_bytealg_LastIndexByteString.L0 t R m j0 a0 a1 (Go.IntKind.wrap Go.IntKind.i64 (L0_7 - (1 : Int))))))) (i_bytealg_LastIndexByteString.T0 t R m a0 a1))
theorem i_bytealg_LastIndexByteString.L0X (t : Nat → DC) (R : Nat → List DV → Option DV) (m : Nat) (j0 : Nat) (a0 : ByteArray) (a1 : Int) (L0_7 : Int) : (runC R m (C.i_bytealg_LastIndexByteString.bX0 (t 0)) (St.mk [(0, (DV.str a0)), (1, (DV.int Go.IntKind.u8 a1)), (5, (DV.int Go.IntKind.i64 L0_7))] []) (kIt (iter (runC R m (C.i_bytealg_LastIndexByteString.bX0 (t 0))) [(0 : Nat), (1 : Nat), (5 : Nat)] [] j0) [(0 : Nat), (1 : Nat), (5 : Nat)] [] (kBlock (0 : Nat) (kSeq (runC R m (C.i_bytealg_LastIndexByteString.sX0 (t 0))) (kFin [(ResV.tmp (4 : Nat))]))))) = i_bytealg_LastIndexByteString.L0E t R m j0 a0 a1 L0_7 := by kernel_rfl
theorem i_bytealg_LastIndexByteString.L0_eq (R : Nat → List DV → Option DV) (m : Nat) (j0 : Nat) (a0 : ByteArray) (a1 : Int) (L0_7 : Int) : i_bytealg_LastIndexByteString.L0 i_bytealg_LastIndexByteString.ts R m (j0 + 1) a0 a1 L0_7 = i_bytealg_LastIndexByteString.L0E i_bytealg_LastIndexByteString.ts R m j0 a0 a1 L0_7 := i_bytealg_LastIndexByteString.L0X i_bytealg_LastIndexByteString.ts R m j0 a0 a1 L0_7
def i_bytealg_LastIndexByteString.T0E (t : Nat → DC) (R : Nat → List DV → Option DV) (m : Nat) (a0 : ByteArray) (a1 : Int) : Option DV :=
  (Option.some (DV.int Go.IntKind.i64 (Neg.neg (1 : Int))))
theorem i_bytealg_LastIndexByteString.T0X (t : Nat → DC) (R : Nat → List DV → Option DV) (m : Nat) (a0 : ByteArray) (a1 : Int) : (runC R m (C.i_bytealg_LastIndexByteString.tX0 (t 0)) (St.mk [] []) (kFin [(ResV.tmp (4 : Nat))])) = i_bytealg_LastIndexByteString.T0E t R m a0 a1 := by kernel_rfl
theorem i_bytealg_LastIndexByteString.T0_eq (R : Nat → List DV → Option DV) (m : Nat) (a0 : ByteArray) (a1 : Int) : i_bytealg_LastIndexByteString.T0 i_bytealg_LastIndexByteString.ts R m a0 a1 = i_bytealg_LastIndexByteString.T0E i_bytealg_LastIndexByteString.ts R m a0 a1 := i_bytealg_LastIndexByteString.T0X i_bytealg_LastIndexByteString.ts R m a0 a1

def strings_LastIndexByte.M (R : Nat → List DV → Option DV) (m : Nat) (a0 : ByteArray) (a1 : Int) : Option DV :=
  (callK R 204 [(DV.str a0), (DV.int Go.IntKind.u8 a1)] (Sh.int Go.IntKind.i64) (fun y6 => (Option.some (DV.int Go.IntKind.i64 y6))))
theorem strings_LastIndexByte.mainX (R : Nat → List DV → Option DV) (m : Nat) (a0 : ByteArray) (a1 : Int) : (runC R m C.strings_LastIndexByte.bodyX (St.mk (numbered (0 : Nat) [(DV.str a0), (DV.int Go.IntKind.u8 a1)]) []) (kFin [(ResV.tmp (4 : Nat))])) = strings_LastIndexByte.M R m a0 a1 := by kernel_rfl
theorem strings_LastIndexByte.run (n : Nat) (a0 : ByteArray) (a1 : Int) : runF D (n + 1) 223 [(DV.str a0), (DV.int Go.IntKind.u8 a1)] = strings_LastIndexByte.M (runF D n) n a0 a1 :=
  (runF_code (fd := C.strings_LastIndexByte) (by kernel_rfl) rfl).trans (strings_LastIndexByte.mainX (runF D n) n a0 a1)

def realm_place.ts : Nat → DC
  | 0 => C.realm_place.t0
  | _ => .skip
def realm_place.L0 (t : Nat → DC) (R : Nat → List DV → Option DV) (m : Nat) (j0 : Nat) (a0 : ByteArray) (L0_5 : (List (El Ty.str))) (L0_9 : Int) : Option DV :=
  (iter (runC R m (C.realm_place.bX0 (t 0))) [(0 : Nat), (3 : Nat), (6 : Nat)] [(3 : Nat)] j0 (St.mk [(0, (DV.str a0)), (3, (DV.loc 3 0)), (6, (DV.int Go.IntKind.i64 L0_9))] [(3, (Blk.arr Ty.str L0_5))]) (kBlock (0 : Nat) (kSeq (runC R m (C.realm_place.sX0 (t 0))) (kFin [(ResV.tmp (2 : Nat))]))))
def realm_place.T0 (t : Nat → DC) (R : Nat → List DV → Option DV) (m : Nat) (a0 : ByteArray) : Option DV :=
  (runC R m (t 0) (St.mk [] []) (kFin [(ResV.tmp (2 : Nat))]))
def realm_place.M (t : Nat → DC) (R : Nat → List DV → Option DV) (m : Nat) (a0 : ByteArray) : Option DV :=
  (callK R 167 [] (Sh.arr Ty.str) (fun y13 => (cond (Bool.and (Nat.beq 24 (List.length y13)) (Nat.beq (0 + (List.length y13)) 24)) (realm_place.L0 t R m m a0 y13 (0 : Int)) (Option.none))))
theorem realm_place.mainX (t : Nat → DC) (R : Nat → List DV → Option DV) (m : Nat) (a0 : ByteArray) : (runC R m (C.realm_place.bodyX (t 0)) (St.mk (numbered (0 : Nat) [(DV.str a0)]) []) (kFin [(ResV.tmp (2 : Nat))])) = realm_place.M t R m a0 := by kernel_rfl
theorem realm_place.run (n : Nat) (a0 : ByteArray) : runF D (n + 1) 173 [(DV.str a0)] = realm_place.M realm_place.ts (runF D n) n a0 :=
  (runF_code (fd := C.realm_place) (by kernel_rfl) rfl).trans (realm_place.mainX realm_place.ts (runF D n) n a0)
def realm_place.L0E (t : Nat → DC) (R : Nat → List DV → Option DV) (m : Nat) (j0 : Nat) (a0 : ByteArray) (L0_5 : (List (El Ty.str))) (L0_9 : Int) : Option DV :=
  (cond (Decidable.decide (L0_9 < (24 : Int))) (cond (Bool.and (Nat.beq (List.length L0_5) 24) Bool.true) (idx L0_5 L0_9 (fun y13 => (idx L0_5 L0_9 (fun y14 => (cond ((ByteArray.toList y14) == (ByteArray.toList a0)) (Option.some (DV.int Go.IntKind.i64 L0_9)) (realm_place.L0 t R m j0 a0 L0_5 (Go.IntKind.wrap Go.IntKind.i64 (L0_9 + (1 : Int))))))))) (Option.none)) (realm_place.T0 t R m a0))
theorem realm_place.L0X (t : Nat → DC) (R : Nat → List DV → Option DV) (m : Nat) (j0 : Nat) (a0 : ByteArray) (L0_5 : (List (El Ty.str))) (L0_9 : Int) : (runC R m (C.realm_place.bX0 (t 0)) (St.mk [(0, (DV.str a0)), (3, (DV.loc 3 0)), (6, (DV.int Go.IntKind.i64 L0_9))] [(3, (Blk.arr Ty.str L0_5))]) (kIt (iter (runC R m (C.realm_place.bX0 (t 0))) [(0 : Nat), (3 : Nat), (6 : Nat)] [(3 : Nat)] j0) [(0 : Nat), (3 : Nat), (6 : Nat)] [(3 : Nat)] (kBlock (0 : Nat) (kSeq (runC R m (C.realm_place.sX0 (t 0))) (kFin [(ResV.tmp (2 : Nat))]))))) = realm_place.L0E t R m j0 a0 L0_5 L0_9 := by kernel_rfl
theorem realm_place.L0_eq (R : Nat → List DV → Option DV) (m : Nat) (j0 : Nat) (a0 : ByteArray) (L0_5 : (List (El Ty.str))) (L0_9 : Int) : realm_place.L0 realm_place.ts R m (j0 + 1) a0 L0_5 L0_9 = realm_place.L0E realm_place.ts R m j0 a0 L0_5 L0_9 := realm_place.L0X realm_place.ts R m j0 a0 L0_5 L0_9
def realm_place.T0E (t : Nat → DC) (R : Nat → List DV → Option DV) (m : Nat) (a0 : ByteArray) : Option DV :=
  (Option.some (DV.int Go.IntKind.i64 (Neg.neg (1 : Int))))
theorem realm_place.T0X (t : Nat → DC) (R : Nat → List DV → Option DV) (m : Nat) (a0 : ByteArray) : (runC R m (C.realm_place.tX0 (t 0)) (St.mk [] []) (kFin [(ResV.tmp (2 : Nat))])) = realm_place.T0E t R m a0 := by kernel_rfl
theorem realm_place.T0_eq (R : Nat → List DV → Option DV) (m : Nat) (a0 : ByteArray) : realm_place.T0 realm_place.ts R m a0 = realm_place.T0E realm_place.ts R m a0 := realm_place.T0X realm_place.ts R m a0

def bailiffref24_cut.ts : Nat → DC
  | 0 => C.bailiffref24_cut.t0
  | _ => .skip
def bailiffref24_cut.L0 (t : Nat → DC) (R : Nat → List DV → Option DV) (m : Nat) (j0 : Nat) (a0 : ByteArray) (L0_10 : Int) : Option DV :=
  (iter (runC R m (C.bailiffref24_cut.bX0 (t 0))) [(0 : Nat), (4 : Nat)] [] j0 (St.mk [(0, (DV.str a0)), (4, (DV.int Go.IntKind.i64 L0_10))] []) (kBlock (0 : Nat) (kSeq (runC R m (C.bailiffref24_cut.sX0 (t 0))) (kFin [(ResV.tmp (2 : Nat)), (ResV.tmp (3 : Nat))]))))
def bailiffref24_cut.T0 (t : Nat → DC) (R : Nat → List DV → Option DV) (m : Nat) (a0 : ByteArray) : Option DV :=
  (runC R m (t 0) (St.mk [(0, (DV.str a0))] []) (kFin [(ResV.tmp (2 : Nat)), (ResV.tmp (3 : Nat))]))
def bailiffref24_cut.M (t : Nat → DC) (R : Nat → List DV → Option DV) (m : Nat) (a0 : ByteArray) : Option DV :=
  (bailiffref24_cut.L0 t R m m a0 (Go.IntKind.wrap Go.IntKind.i64 ((@Nat.cast Int _ (ByteArray.size a0)) - (1 : Int))))
theorem bailiffref24_cut.mainX (t : Nat → DC) (R : Nat → List DV → Option DV) (m : Nat) (a0 : ByteArray) : (runC R m (C.bailiffref24_cut.bodyX (t 0)) (St.mk (numbered (0 : Nat) [(DV.str a0)]) []) (kFin [(ResV.tmp (2 : Nat)), (ResV.tmp (3 : Nat))])) = bailiffref24_cut.M t R m a0 := by kernel_rfl
theorem bailiffref24_cut.run (n : Nat) (a0 : ByteArray) : runF D (n + 1) 105 [(DV.str a0)] = bailiffref24_cut.M bailiffref24_cut.ts (runF D n) n a0 :=
  (runF_code (fd := C.bailiffref24_cut) (by kernel_rfl) rfl).trans (bailiffref24_cut.mainX bailiffref24_cut.ts (runF D n) n a0)
def bailiffref24_cut.L0E (t : Nat → DC) (R : Nat → List DV → Option DV) (m : Nat) (j0 : Nat) (a0 : ByteArray) (L0_10 : Int) : Option DV :=
  (cond (Decidable.decide (L0_10 ≥ (0 : Int))) (idx (Array.toList (ByteArray.data a0)) L0_10 (fun y17 => (cond ((@Nat.cast Int _ (UInt8.toNat y17)) == (46 : Int)) (cut (ByteArray.size a0) (Option.none) (Option.some L0_10) (fun y18 => (fun y19 => (cut (ByteArray.size a0) (Option.some (Go.IntKind.wrap Go.IntKind.i64 (L0_10 + (1 : Int)))) (Option.none) (fun y20 => (fun y21 => (Option.some (DV.tup [(DV.str (ByteArray.extract a0 y18 y19)), (DV.str (ByteArray.extract a0 y20 y21))])))))))) (bailiffref24_cut.L0 t R m j0 a0 (Go.IntKind.wrap Go.IntKind.i64 (L0_10 - (1 : Int))))))) (bailiffref24_cut.T0 t R m a0))
theorem bailiffref24_cut.L0X (t : Nat → DC) (R : Nat → List DV → Option DV) (m : Nat) (j0 : Nat) (a0 : ByteArray) (L0_10 : Int) : (runC R m (C.bailiffref24_cut.bX0 (t 0)) (St.mk [(0, (DV.str a0)), (4, (DV.int Go.IntKind.i64 L0_10))] []) (kIt (iter (runC R m (C.bailiffref24_cut.bX0 (t 0))) [(0 : Nat), (4 : Nat)] [] j0) [(0 : Nat), (4 : Nat)] [] (kBlock (0 : Nat) (kSeq (runC R m (C.bailiffref24_cut.sX0 (t 0))) (kFin [(ResV.tmp (2 : Nat)), (ResV.tmp (3 : Nat))]))))) = bailiffref24_cut.L0E t R m j0 a0 L0_10 := by kernel_rfl
theorem bailiffref24_cut.L0_eq (R : Nat → List DV → Option DV) (m : Nat) (j0 : Nat) (a0 : ByteArray) (L0_10 : Int) : bailiffref24_cut.L0 bailiffref24_cut.ts R m (j0 + 1) a0 L0_10 = bailiffref24_cut.L0E bailiffref24_cut.ts R m j0 a0 L0_10 := bailiffref24_cut.L0X bailiffref24_cut.ts R m j0 a0 L0_10
def bailiffref24_cut.T0E (t : Nat → DC) (R : Nat → List DV → Option DV) (m : Nat) (a0 : ByteArray) : Option DV :=
  (Option.some (DV.tup [(DV.str (bs [])), (DV.str a0)]))
theorem bailiffref24_cut.T0X (t : Nat → DC) (R : Nat → List DV → Option DV) (m : Nat) (a0 : ByteArray) : (runC R m (C.bailiffref24_cut.tX0 (t 0)) (St.mk [(0, (DV.str a0))] []) (kFin [(ResV.tmp (2 : Nat)), (ResV.tmp (3 : Nat))])) = bailiffref24_cut.T0E t R m a0 := by kernel_rfl
theorem bailiffref24_cut.T0_eq (R : Nat → List DV → Option DV) (m : Nat) (a0 : ByteArray) : bailiffref24_cut.T0 bailiffref24_cut.ts R m a0 = bailiffref24_cut.T0E bailiffref24_cut.ts R m a0 := bailiffref24_cut.T0X bailiffref24_cut.ts R m a0

end S
end Bz
