/-
  The law's own num: an error's number, at this seat's numbers.
-/
import Derived.Test.YtdoaalbgmdpamaaDoorNum
import Derived.Below
import Derived.Lib.Hide
set_option linter.unusedVariables false
set_option linter.unusedSimpArgs false
namespace Go.Proofs.YtdoaalbgmdpamaaDoor
open Go.RowKit

/-- the handle of the library's own variable -/
def Handle (w : World) : Prop := w.cell? ⟨0, 0, none⟩ = some (.iface 101 (.agg #[.pointer (some ⟨1, 25, none⟩)]))
theorem Handle.below {w w' : World} (h : Handle w) (hb : Below w.heap.size w w') : Handle w' :=
  (hb.cell (World.block_lt_of_cell? w _ h)).trans h
theorem nalloc {w W : World} {o : Obj} (h : Below w.heap.size w W) : Below w.heap.size w (W.alloc o) := h.alloc h.size o
theorem num_nil (w : World) :
    Calls Tryd.prog 14 #[.nilIface] w fun e w' => e = .returned (.int .i64 0) ∧ Below w.heap.size w w' := by
  go_enter Tryd.func14, Tryd.ntmps14
  go_wp2
  go_ret
  exact ⟨rfl, (Below.refl _ _).alloc (Nat.le_refl _) _⟩
set_option maxHeartbeats 1000000 in
theorem num_err (c : Int) (w : World) (hg : Handle w) :
    Calls Tryd.prog 14 #[.iface 56 (.int .i64 c)] w fun e w' => e = .returned (.int .i64 c) ∧ Below w.heap.size w w' := by
  have HG := Lib.hid (hg.below ((Below.refl _ _).alloc (Nat.le_refl _) (.cells #[.int .i64 0] 56)))
  clear hg
  go_enter Tryd.func14, Tryd.ntmps14
  go_wp2_with (go_at_call 28; refine Calls.mono (as_hit c _ (.int .i64 0) _ HG.out ?_ ?_) ?_; go_simp; go_simp; rintro e w' ⟨rfl, rfl⟩)
  go_ret
  refine ⟨rfl, ?_⟩
  repeat (first | exact Below.refl _ _ | apply nalloc)
end Go.Proofs.YtdoaalbgmdpamaaDoor
