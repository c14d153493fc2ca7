import Derived.Test.YtmcammamjbfkfaaGreatDoorAiLoop
import Derived.Shelf.Strconv.Itoa3
import Derived.Shelf.Strings.OnBuilder
import Derived.Shelf.Sort.Plain
import Derived.Shelf.Slices.In.SortNone
import Derived.Shelf.Slices.CompactI
import Derived.Shelf.Slices.Clone
import Derived.Shelf.Lay
import Derived.Ground.NamesProg
import Derived.Ground.Names2Prog
import Derived.Test.YtmcammamjbfkfaaGreatDoorProg
set_option maxHeartbeats 1000000
namespace Go.Proofs
open Go.Shelf
shelf_lay LaysM.n171 Nm 171 at Tryz as Tryz.laysItoa
shelf_lay Lays.n156 Nm 156 at Tryz as Tryz.laysJoin
shelf_lay Lays.n189 Nm 189 at Tryz as Tryz.laysSort
shelf_lay Lays2.n20 Nm2 20 at Tryz as Tryz.laysCompact
shelf_lay Lays2.n15 Nm2 15 at Tryz as Tryz.laysClone
theorem Tryz.extraJoin : Builder.Extra Tryz.prog Tryz.laysJoin_ren where
  sizeBuilder := by kernel_rfl
  liesBuilder := by kernel_rfl
  t5 := by kernel_rfl
  a5 := Tryz.isAgg5
  z5 := Tryz.sizeOf5
  v5 := Tryz.zeroValue5
  infoByte := by kernel_rfl
  cellsByte := by kernel_rfl
  sizeByte := by kernel_rfl
  neB5 := by decide
end Go.Proofs
