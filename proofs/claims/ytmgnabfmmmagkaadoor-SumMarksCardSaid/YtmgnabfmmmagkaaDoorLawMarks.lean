/-
  The walk of the law SumMarks, at this seat's numbers.
-/
import Derived.Test.YtmgnabfmmmagkaaDoorRMark
import Derived.Test.YtmgnabfmmmagkaaDoorStr
import Derived.Test.YtmgnabfmmmagkaaDoorNumB
import Derived.StillTailTactics
import Derived.Deep.RegionWith
import Derived.BigRegion
set_option linter.unusedVariables false
set_option linter.unusedSimpArgs false
namespace Go.Proofs.YtmgnabfmmmagkaaDoor
open Go Go.RowKit Crc

theorem conv_nil (W : World) : (convert 22 9 (.slice none 0 0)).run Tryd.prog W = .ok (.string (strB [])) W :=
  conv_str (a := none) ⟨rfl, by simp, by simp, by simp, fun _ => ⟨rfl, rfl⟩, fun c hc => (by cases hc), fun h0 => absurd h0 (by simp)⟩
set_option maxRecDepth 100000 in
set_option maxHeartbeats 8000000 in
theorem lawMarks_any (a : Option Addr) (n cap : Nat) (xs : List Int) (w : World) (ha : ReadsB w a n cap xs) (hg : Fours w) (hh : Handle w) :
    Calls Tryd.prog 9 #[.slice a n cap] w fun e w' => e = .returned (.bool true) ∧ Below w.heap.size w w' := by
  have hn := ha.bound
  have HA := Lib.hid ha
  have HG := Lib.hid hg
  have HH := Lib.hid hh
  clear ha hg hh
  have HB := Lib.hid (Below.refl w.heap.size w)
  by_cases h1 : 3000 < n
  · go_enter Tryd.func9, Tryd.ntmps9
    go_wp2_with (go_at_call 10; refine Calls.mono (sure_any _ ?_) ?_; exact HG.out; rintro e w9 ⟨rfl, hB⟩)
    go_ret
    exact ⟨rfl, hB⟩
  by_cases h4 : n < 4
  · have eb : goodB xs = false := goodB_short (by rw [HA.out.len]; exact h4)
    go_enter Tryd.func9, Tryd.ntmps9
    have qa := conv_str HA.out
    have qn := fun W => conv_nil W
    go_wp2_with (first | (go_at_call 11; refine Calls.mono (mark_short _ _ _ xs _ HA.out h4) ?_; rintro e w1 ⟨rfl, rfl⟩) | (go_at_call 17; refine Calls.mono (rmark_short _ _ _ xs _ HA.out h4) ?_; rintro e w2 ⟨rfl, rfl⟩) | (go_at_call 18; refine Calls.mono (num_err 1 _ HH.out) ?_; rintro e w5 ⟨rfl, hB⟩; clear HB; have HB := Lib.hid hB; clear hB) | (go_at_call 12; refine Calls.mono (good_any _ _ _ xs _ ?_ ?_) ?_; exact ReadsB.below HA.out HB.out; exact (HG.out).below HB.out; rintro e w6 ⟨rfl, hB⟩; have n0 := Lib.hid (bstep HB.out hB); clear HB; have HB := n0; clear n0; have qa := conv_str (ReadsB.below HA.out HB.out); clear hB) | (go_at_call 10; refine Calls.mono (sure_any _ ?_) ?_; exact (HG.out).below HB.out; rintro e w9 ⟨rfl, hB⟩; have n0 := Lib.hid (bstep HB.out hB); clear HB hB; have HB := n0; clear n0))
    go_ret
    exact ⟨rfl, HB.out⟩
  have HLX : Hid (4 ≤ xs.length) := Lib.hid (by rw [HA.out.len]; omega)
  have HY : Hid (IsBytes (markL xs)) := Lib.hid (markL_bytes HA.out.byte)
  have HL : Hid ((markL xs).length = n) := Lib.hid (by rw [markL_length HLX.out, HA.out.len])
  have eb : goodB xs = ((strB (markL xs)).toList == (strB xs).toList) := by rw [goodB_long HLX.out, strB_eql HY.out HA.out.byte]
  go_enter Tryd.func9, Tryd.ntmps9
  have qa := conv_str HA.out
  go_wp2_with (first | (go_at_call 11; refine Calls.mono (mark_any _ _ _ xs _ HA.out HG.out (by omega)) ?_; rintro e w1 ⟨v1, rfl, ho, hB⟩; obtain ⟨a1, c1, rfl, hr1⟩ := ho.reads' HY.out HL.out hn; have HR1 := Lib.hid hr1; clear HB; have HB := Lib.hid hB; clear ho hr1 hB) | (go_at_call 17; refine Calls.mono (rmark_any _ _ _ xs _ (ReadsB.below HA.out HB.out) (by omega)) ?_; rintro e w2 ⟨v2, rfl, ho, hB⟩; obtain ⟨a2, c2, rfl, hr2⟩ := ho.reads' HY.out HL.out hn; have HR2 := Lib.hid hr2; have n1 := Lib.hid (ReadsB.below HR1.out hB); clear HR1; have HR1 := n1; clear n1; have n0 := Lib.hid (bstep HB.out hB); clear HB; have HB := n0; clear n0; have qa := conv_str (ReadsB.below HA.out HB.out); have q1 := conv_str HR1.out; have q2 := conv_str HR2.out; clear ho hr2 hB) | (go_at_call 18; refine Calls.mono (num_nil _) ?_; rintro e w5 ⟨rfl, hB⟩; have n1 := Lib.hid (ReadsB.below HR2.out hB); clear HR2; have HR2 := n1; clear n1; have n0 := Lib.hid (bstep HB.out hB); clear HB; have HB := n0; clear n0; have q2 := conv_str HR2.out; clear hB) | (go_at_call 12; refine Calls.mono (good_any _ _ _ xs _ ?_ ?_) ?_; exact ReadsB.below HA.out HB.out; exact (HG.out).below HB.out; rintro e w6 ⟨rfl, hB⟩; have n0 := Lib.hid (bstep HB.out hB); clear HB; have HB := n0; clear n0; have qa := conv_str (ReadsB.below HA.out HB.out); have q2 := conv_str (ReadsB.below HR2.out hB); clear hB) | (go_at_call 10; refine Calls.mono (sure_any _ ?_) ?_; exact (HG.out).below HB.out; rintro e w9 ⟨rfl, hB⟩; have n0 := Lib.hid (bstep HB.out hB); clear HB hB; have HB := n0; clear n0))
  go_ret
  exact ⟨rfl, HB.out⟩
end Go.Proofs.YtmgnabfmmmagkaaDoor
