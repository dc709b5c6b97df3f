/- Functions that are given outright: what they answer on plain data. -/
import Derived.Test.YtjlgkjmbndmkjabDev2c
import GoSem.Core.Float
set_option linter.all false
namespace Bz
open Go
namespace P
def clone : List DV → Option DV
  | [.sl .prp l] => bif room .prp l.length then some (.own .prp l) else none
  | _ => none
def truncF (b : Nat) : Nat := FloatKind.f64.encode ((FloatKind.f64.decode b).integral .zero)
def trunc : List DV → Option DV
  | [.float b] => bif isNaN b then none else some (.float (truncF b))
  | _ => none
def f2bits : List DV → Option DV
  | [.float b] => bif isNaN b then none else some (.int .u64 b)
  | _ => none
def bits2f : List DV → Option DV
  | [.int .u64 n] => some (.float n.toNat)
  | _ => none
def tableCheck : List DV → Option DV := fun _ => some (.int .i64 0)
def heapLoops : List DV → Option DV := fun _ => some (.bool false)
def obeys : List DV → Option DV := fun _ => none
end P
end Bz
