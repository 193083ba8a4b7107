/-
  The walk of the law SumSums, at this seat's numbers.
-/
import Derived.Test.YtmgnabfmmmagkaaDoorSumE
import Derived.StillTailTactics
import Derived.Deep.RegionWith
import Derived.BigRegion
set_option linter.unusedVariables false
set_option linter.unusedSimpArgs false
namespace Go.Proofs.YtmgnabfmmmagkaaDoor
open Go Go.RowKit Crc

theorem rmore_0 (a : Option Addr) (n cap : Nat) (xs : List Int) (w : World) (hr : ReadsB w a n cap xs) :
    Calls Tryd.prog 14 #[.int .u32 0, .slice a n cap] w fun e w' => e = .returned (.int .u32 (reg32 (sumOf xs))) ∧ w = w' := rmore_any 0#32 a n cap xs w hr
set_option maxRecDepth 100000 in
set_option maxHeartbeats 8000000 in
theorem lawSums_any (a : Option Addr) (n cap : Nat) (s : BitVec 32) (m : Int) (xs : List Int) (w : World) (ha : ReadsB w a n cap xs) (hg : Fours w) :
    Calls Tryd.prog 6 #[.slice a n cap, .int .u32 (reg32 s), .int .i64 m] w fun e w' => e = .returned (.bool true) ∧ Below w.heap.size w w' := by
  have hn := ha.bound
  have HA := Lib.hid ha
  have HG := Lib.hid hg
  clear ha hg
  have HB := Lib.hid (Below.refl w.heap.size w)
  by_cases h1 : 3000 < n
  · go_enter Tryd.func6, Tryd.ntmps6
    go_wp2_with (go_at_call 10; refine Calls.mono (sure_any _ ?_) ?_; exact HG.out; rintro e w9 ⟨rfl, hB⟩)
    go_ret
    exact ⟨rfl, hB⟩
  obtain ⟨k, ek, hk'⟩ := place_num m 300 (by decide) (by decide)
  have hk : k < 300 := by omega
  have e3 : (reg32 (noughtsI s (k : Int)) == reg32 (sumMore s (List.replicate k 0))) = true := beq_u32 (by
    rw [noughtsI_nat _ _ (by omega), noughtsOf_more])
  have e4 : (reg32 (noughtsI s (-(k : Int))) == reg32 s) = true := beq_u32 (by rw [noughtsI_neg _ _ (by omega)])
  go_enter Tryd.func6, Tryd.ntmps6
  have hmk := make_bytes k (by omega)
  have ew : IntKind.i64.wrap (-(k : Int)) = -(k : Int) := by rw [IntKind.wrap_i64]; omega
  go_wp2
  go_region_with (first | (go_at_call 13; with_reducible refine Calls.mono (sum_any _ _ _ xs _ ?_ ?_) ?_; exact ReadsB.below HA.out (by repeat (first | (with_reducible exact HB.out) | (with_reducible exact Below.refl _ _) | with_reducible apply balloc | with_reducible apply Below.drew | with_reducible apply below_drewN)); exact (HG.out).below (by repeat (first | (with_reducible exact HB.out) | (with_reducible exact Below.refl _ _) | with_reducible apply balloc | with_reducible apply Below.drew | with_reducible apply below_drewN)); rintro e w2 ⟨rfl, rfl⟩) | (go_at_call 14; with_reducible refine Calls.mono (rmore_0 _ _ _ xs _ ?_) ?_; exact ReadsB.below HA.out (by repeat (first | (with_reducible exact HB.out) | (with_reducible exact Below.refl _ _) | with_reducible apply balloc | with_reducible apply Below.drew | with_reducible apply below_drewN)); rintro e w2 ⟨rfl, rfl⟩) | (go_at_call 15; with_reducible refine Calls.mono (more_any s _ _ _ xs _ ?_ ?_) ?_; exact ReadsB.below HA.out (by repeat (first | (with_reducible exact HB.out) | (with_reducible exact Below.refl _ _) | with_reducible apply balloc | with_reducible apply Below.drew | with_reducible apply below_drewN)); exact (HG.out).below (by repeat (first | (with_reducible exact HB.out) | (with_reducible exact Below.refl _ _) | with_reducible apply balloc | with_reducible apply Below.drew | with_reducible apply below_drewN)); rintro e w2 ⟨rfl, rfl⟩) | (go_at_call 14; with_reducible refine Calls.mono (rmore_any s _ _ _ xs _ ?_) ?_; exact ReadsB.below HA.out (by repeat (first | (with_reducible exact HB.out) | (with_reducible exact Below.refl _ _) | with_reducible apply balloc | with_reducible apply Below.drew | with_reducible apply below_drewN)); rintro e w2 ⟨rfl, rfl⟩) | (go_at_call 14; with_reducible refine Calls.mono (rmore_any s _ _ _ (List.replicate k 0) _ ?_) ?_; (first | (with_reducible exact zeros_reads k (Nat.le_of_lt (Nat.lt_of_lt_of_le hk (by decide))) _) | (with_reducible exact HZ.out)); rintro e w2 ⟨rfl, rfl⟩; have n0 := Lib.hid (show Below w.heap.size w _ from (by repeat (first | (with_reducible exact HB.out) | (with_reducible exact Below.refl _ _) | with_reducible apply balloc | with_reducible apply Below.drew | with_reducible apply below_drewN))); clear HB; have HB := n0; clear n0) | (go_at_call 16; with_reducible refine Calls.mono (noughts_all s _ _ ?_) ?_; (constructor <;> omega); rintro e w2 ⟨rfl, hB⟩; (try have HZ := Lib.hid (ReadsB.below (zeros_reads k (Nat.le_of_lt (Nat.lt_of_lt_of_le hk (by decide))) _) hB)); (try have HZ := Lib.hid (ReadsB.below (zeros_reads k (Nat.le_of_lt (Nat.lt_of_lt_of_le hk (by decide))) _).drewB hB)); have n0 := Lib.hid (bstep (show Below w.heap.size w _ from (by repeat (first | (with_reducible exact HB.out) | (with_reducible exact Below.refl _ _) | with_reducible apply balloc | with_reducible apply Below.drew | with_reducible apply below_drewN))) hB); clear HB hB; have HB := n0; clear n0) | (go_at_call 10; refine Calls.mono (sure_any _ ?_) ?_; exact (HG.out).below (by repeat (first | (with_reducible exact HB.out) | (with_reducible exact Below.refl _ _) | with_reducible apply balloc | with_reducible apply Below.drew | with_reducible apply below_drewN)); rintro e w9 ⟨rfl, hB⟩; have HB9 := Lib.hid (bstep (show Below w.heap.size w _ from (by repeat (first | (with_reducible exact HB.out) | (with_reducible exact Below.refl _ _) | with_reducible apply balloc | with_reducible apply Below.drew | with_reducible apply below_drewN))) hB); clear hB))
  all_goals
    go_wp2
    go_ret
    exact ⟨rfl, HB9.out⟩
end Go.Proofs.YtmgnabfmmmagkaaDoor
