import Derived.Test.YtfgohaghjaeafaaAvZ
import Derived.Shelf.Lay
import Derived.Ground.NamesProg
import Derived.Test.YtfgohaghjaeafaaProg
namespace Go.Proofs
open Go.Shelf
shelf_lay Lays.n156 Nm 156 at Try as Try.lays156
theorem Try.extra156 : Builder.Extra Try.prog Try.lays156_ren where
  sizeBuilder := by kernel_rfl
  liesBuilder := by kernel_rfl
  t5 := Try.underlying5
  a5 := Try.isAgg5
  z5 := Try.sizeOf5
  v5 := Try.zeroValue5
  infoByte := by kernel_rfl
  cellsByte := by kernel_rfl
  sizeByte := by kernel_rfl
  neB5 := by decide
end Go.Proofs
namespace Go.Av
theorem join_ok {xs : List ByteArray} {sep q : ByteArray} (h : strings_Join xs sep = some q) :
    Summ Go.Proofs.Try.prog 39 [.c (.view 1 xs.length (fun i => encStr (xs.getD i default))), .c (.d (.str sep))] [] (.c (.d (.str q))) [] :=
  strings_Join_ok Go.Proofs.Try.lays156 Go.Proofs.Try.extra156 h
end Go.Av
