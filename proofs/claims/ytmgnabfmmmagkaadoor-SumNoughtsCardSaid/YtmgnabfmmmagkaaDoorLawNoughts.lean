/-
  The walk of the law SumNoughts, at this seat's numbers.
-/
import Derived.Test.YtmgnabfmmmagkaaDoorSumD
set_option linter.unusedVariables false
set_option linter.unusedSimpArgs false
namespace Go.Proofs.YtmgnabfmmmagkaaDoor
open Go Go.RowKit Crc

set_option maxRecDepth 100000 in
set_option maxHeartbeats 4000000 in
theorem lawNoughts_any (s : BitVec 32) (a b : Int) (w : World) (hg : Fours w) :
    Calls Tryd.prog 7 #[.int .u32 (u32 s), .int .i64 a, .int .i64 b] w fun e w' => e = .returned (.bool true) ∧ Below w.heap.size w w' := by
  have HG := Lib.hid hg
  clear hg
  have HB := Lib.hid (Below.refl w.heap.size w)
  obtain ⟨x, ex, hx⟩ := place_num a 549755813888 (by decide) (by decide)
  obtain ⟨y, ey, hy⟩ := place_num b 549755813888 (by decide) (by decide)
  have e1 : (u32 (noughtsI (noughtsI s (x : Int)) (y : Int)) == u32 (noughtsI s ((x : Int) + (y : Int)))) = true := beq_u32 (by
    rw [noughtsI_nat _ _ (by omega), noughtsI_nat _ _ (by omega), show (x : Int) + (y : Int) = ((x + y : Nat) : Int) by omega, noughtsI_nat _ _ (by omega), noughtsOf_add])
  have e2 : (u32 (noughtsI s 0) == u32 s) = true := beq_u32 (by rw [noughtsI_neg _ _ (by decide)])
  have e3 : (u32 (noughtsI s (1099511627776 + (x : Int))) == u32 (noughtsI s 1099511627776)) = true := beq_u32 (by
    rw [noughtsI_top _ _ (by omega), noughtsI_top _ _ (by omega)])
  have e4 : (u32 (noughtsI s 1) == u32 (sumMore s [0])) = true := beq_u32 (by
    rw [show (1 : Int) = ((1 : Nat) : Int) from rfl, noughtsI_nat _ _ (by omega), noughtsOf_more]; rfl)
  go_enter Tryd.func7, Tryd.ntmps7
  go_wp2_with (first | (go_at_call 16; refine Calls.mono (noughts_all _ _ _ ?_) ?_; (constructor <;> omega); rintro e w2 ⟨rfl, hB⟩; have n0 := Lib.hid (bstep HB.out hB); clear HB hB; have HB := n0; clear n0) | (go_at_call 15; refine Calls.mono (more_any s _ _ _ [0] _ ?_ ?_) ?_; exact built_reads _ _ _ [0] rfl (by intro c hc; simp at hc; subst hc; exact ⟨by decide, by decide⟩) (by simp); exact (HG.out).below (balloc HB.out _); rintro e w3 ⟨rfl, rfl⟩; have n0 := Lib.hid (balloc HB.out (.cells #[.int .u8 0] 5)); clear HB; have HB := n0; clear n0) | (go_at_call 10; refine Calls.mono (sure_any _ ?_) ?_; exact (HG.out).below HB.out; rintro e w9 ⟨rfl, hB⟩; have HB9 := Lib.hid (bstep HB.out hB); clear hB))
  go_ret
  exact ⟨rfl, HB9.out⟩
end Go.Proofs.YtmgnabfmmmagkaaDoor
