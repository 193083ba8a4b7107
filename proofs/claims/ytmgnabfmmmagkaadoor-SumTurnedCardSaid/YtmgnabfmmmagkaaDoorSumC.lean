/-
  The walks of package sum's Good and of the laws' own 'sure' of layer 1, at this seat's numbers.
-/
import Derived.Test.YtmgnabfmmmagkaaDoorSumB
import Derived.Lib.SlBytesConst
set_option linter.unusedVariables false
set_option linter.unusedSimpArgs false
namespace Go.Proofs.YtmgnabfmmmagkaaDoor
open Go Go.RowKit Crc

def goodB (xs : List Int) : Bool := decide (4 ≤ xs.length) && eqB (markL xs) xs
theorem goodB_short {xs : List Int} (h : xs.length < 4) : goodB xs = false := by
  unfold goodB
  rw [decide_eq_false (by omega)]; rfl
theorem goodB_long {xs : List Int} (h : 4 ≤ xs.length) : goodB xs = eqB (markL xs) xs := by
  unfold goodB
  rw [decide_eq_true h]; rfl
theorem below_drewN {B : Nat} {a w : World} (h : Below B a w) (n : Nat) : Below B a (w.drewN n) := ⟨h.os, h.tape, h.output, h.size, h.block⟩
set_option maxHeartbeats 1000000 in
theorem good_any (a : Option Addr) (n cap : Nat) (xs : List Int) (w : World) (hr : ReadsB w a n cap xs) (hg : Fours w) :
    Calls Tryd.prog 12 #[.slice a n cap] w fun e w' => e = .returned (.bool (goodB xs)) ∧ Below w.heap.size w w' := by
  have HR := Lib.hid hr
  have HG := Lib.hid hg
  have hl := Lib.hid hr.len
  have hb := Lib.hid hr.bound
  clear hr hg
  by_cases h : n < 4
  · go_enter Tryd.func12, Tryd.ntmps12
    go_wp2_with (go_at_call 11; refine (mark_short _ _ _ _ _ HR.out h).mono ?_; rintro e w' ⟨rfl, rfl⟩)
    go_ret
    exact ⟨ret_bool (goodB_short (by rw [hl.out]; exact h)).symm, Below.refl _ _⟩
  · go_enter Tryd.func12, Tryd.ntmps12
    go_wp2_with (first | (go_at_call 11; refine (mark_any _ _ _ _ _ HR.out HG.out (by omega)).mono ?_; rintro e w1 ⟨v1, rfl, ho, hB⟩; obtain ⟨a1, c1, rfl, hr1⟩ := ho.reads (markL_bytes (HR.out).byte) (by rw [markL_length (by rw [hl.out]; omega), hl.out]; exact hb.out); have HR1 := Lib.hid hr1; have HB1 := Lib.hid hB; clear ho hr1 hB) | (go_at_call 20; refine (equal_any _ _ _ _ _ _ _ _ _ HR1.out ((HR.out).below HB1.out)).mono ?_; rintro e w2 ⟨rfl, k2, rfl⟩))
    go_ret
    exact ⟨ret_bool (goodB_long (by rw [hl.out]; omega)).symm, below_drewN HB1.out _⟩
theorem bstep {w W W' : World} (h : Below w.heap.size w W) (k : Below W.heap.size W W') : Below w.heap.size w W' := h.trans (k.mono h.size)
theorem balloc {w W : World} (h : Below w.heap.size w W) (o : Obj) : Below w.heap.size w (W.alloc o) := h.alloc h.size o
theorem markL_def (xs : List Int) : markL xs = xs.take (xs.length - 4) ++ sum4 (sumOf (xs.take (xs.length - 4))) := rfl
theorem markL_twice {xs : List Int} (h : 4 ≤ xs.length) : markL (markL xs) = markL xs := by
  have hl := markL_length h
  have e : (markL xs).take (xs.length - 4) = xs.take (xs.length - 4) := by
    unfold markL
    rw [List.take_append_of_le_length (by simp), List.take_take, Nat.min_self]
  rw [markL_def (markL xs), hl, e]; rfl
theorem goodB_mark {xs : List Int} (h : 4 ≤ xs.length) : goodB (markL xs) = true := by
  rw [goodB_long (by rw [markL_length h]; exact h), markL_twice h]
  exact beq_self_eq_true _
def abx : List Int := [97, 98, 120, 120, 120, 120]
def digits9 : List Int := [49, 50, 51, 52, 53, 54, 55, 56, 57]
theorem sum9 : u32 (sumOf digits9) = 3808858755 := by decide +kernel
theorem abx_bad : goodB abx = false := by decide +kernel
theorem abx_bytes : IsBytes abx := by intro c hc; simp [abx] at hc; rcases hc with rfl | rfl | rfl <;> (constructor <;> decide)
theorem digits9_bytes : IsBytes digits9 := by intro c hc; simp [digits9] at hc; rcases hc with rfl | rfl | rfl | rfl | rfl | rfl | rfl | rfl | rfl <;> (constructor <;> decide)
set_option maxRecDepth 100000 in
set_option maxHeartbeats 4000000 in
theorem sure_any (w : World) (hg : Fours w) :
    Calls Tryd.prog 10 #[] w fun e w' => e = .returned (.bool true) ∧ Below w.heap.size w w' := by
  have HG := Lib.hid hg
  have HB := Lib.hid (Below.refl w.heap.size w)
  have s9 := sum9
  have kc := fun (w : World) (C : Array Value) (n c : Nat) => Lib.run_convert_bytes_const (P := Tryd.prog) w 22 5 C n c Tryd.underlying22 Tryd.underlying5
  have g1 := goodB_mark (xs := abx) (by decide)
  have g2 := abx_bad
  clear hg
  go_enter Tryd.func10, Tryd.ntmps10
  go_wp2_with (first | (go_at_call 11; refine Calls.mono (mark_any _ _ _ abx _ ?_ ?_ ?_) ?_; exact built_reads _ _ _ abx rfl abx_bytes (by decide); exact (HG.out).below (balloc HB.out _); decide; rintro e w1 ⟨v1, rfl, ho, hB⟩; obtain ⟨a1, c1, rfl, hr1⟩ := ho.reads (markL_bytes abx_bytes) (by rw [markL_length (by decide)]; decide); have HR1 := Lib.hid hr1; have HB1 := Lib.hid (bstep (balloc HB.out _) hB); clear HB ho hr1 hB) | (go_at_call 13; refine Calls.mono (sum_any _ _ _ digits9 _ ?_ ?_) ?_; exact built_reads _ _ _ digits9 rfl digits9_bytes (by decide); exact (HG.out).below (balloc HB1.out _); rintro e w2 ⟨rfl, rfl⟩) | (go_at_call 12; refine Calls.mono (good_any _ _ _ (markL abx) _ ?_ ?_) ?_; with_reducible exact (HR1.out).below ((Below.refl _ _).alloc (Nat.le_refl _) _); exact (HG.out).below (balloc HB1.out _); rintro e w3 ⟨rfl, hB⟩; have HB3 := Lib.hid (bstep (balloc HB1.out _) hB); clear hB) | (go_at_call 12; refine Calls.mono (good_any _ _ _ abx _ ?_ ?_) ?_; exact built_reads _ _ _ abx rfl abx_bytes (by decide); exact (HG.out).below (balloc HB3.out _); rintro e w4 ⟨rfl, hB⟩; have HB4 := Lib.hid (bstep (balloc HB3.out _) hB); clear hB))
  go_ret
  exact ⟨rfl, HB4.out⟩
end Go.Proofs.YtmgnabfmmmagkaaDoor
