/- What the contracts by hand ask of the world: the table of strconv's and the variable of internal/bytealg's. -/
import Derived.Test.YtifejekkbipakaaDoorProg
import Derived.Below
import Derived.KernelRfl
import Derived.Lib.LaidTab
import Derived.WalkSmall
import Derived.Shelf.Strconv.Itoa3
set_option linter.unusedVariables false
set_option linter.unusedSimpArgs false
namespace Go.Proofs.YtifejekkbipakaaDoor
open Go.RowKit
theorem globT : Tryd.prog.globalNamed "internal/strconv.uint64pow10" = some 0 := by kernel_rfl
/-- strconv's table of powers of ten reads as its text lays it. -/
def GOKT (w : World) : Prop := Lib.TabIs Tryd.prog w "internal/strconv.uint64pow10" .u64 Lib.pow10Tab
theorem GOKT.below {w w1 : World} (h : GOKT w) (hb : Below w.heap.size w w1) : GOKT w1 := by
  have hc := Lib.TabIs.cell h globT 0 (by rw [Lib.pow10Tab_length]; omega)
  exact var?_below hb globT (World.block_lt_of_cell? w _ hc) h
/-- internal/bytealg's variable holds some number. -/
def GOKM (w : World) : Prop := ∃ m : Int, w.cell? ⟨1, 0, none⟩ = some (.int .i64 m)
theorem GOKM.below {w w1 : World} (h : GOKM w) (hb : Below w.heap.size w w1) : GOKM w1 := by
  obtain ⟨m, hm⟩ := h
  exact ⟨m, (hb.cell (World.block_lt_of_cell? w _ hm)).trans hm⟩
end Go.Proofs.YtifejekkbipakaaDoor
