/-
  The walks of package sum's Good and of the laws' own 'sure' of layer 1, at this seat's numbers.
-/
import Derived.Test.YtmgnabfmmmagkaaDoorSumB
import Derived.Lib.SlBytesConst
set_option linter.unusedVariables false
set_option linter.unusedSimpArgs false
namespace Go.Proofs.YtmgnabfmmmagkaaDoor
open Go Go.RowKit Crc

theorem bit_test (p : BitVec 32) (j : Nat) : (bits .and .u32 (reg32 p / 2 ^ j) 1 == 1) = p.getLsbD j := by
  have e1 : reg32 p / 2 ^ j = reg32 (p >>> j) := by
    unfold reg32
    rw [BitVec.toNat_ushiftRight, Nat.shiftRight_eq_div_pow]
    simp
  have e2 : bits .and .u32 (reg32 (p >>> j)) 1 = (((p >>> j).toNat % 2 : Nat) : Int) := by
    show IntKind.u32.wrap (((BitVec.ofInt 32 (reg32 (p >>> j))) &&& 1#32).toNat : Int) = _
    rw [ofInt_u32, wrap_u32v]; unfold reg32
    rw [BitVec.toNat_and]
    congr 1
    exact Nat.and_two_pow_sub_one_eq_mod _ 1
  rw [e1, e2]
  have e3 : p.getLsbD j = (p >>> j).getLsbD 0 := by rw [BitVec.getLsbD_ushiftRight]; simp
  rw [e3]
  have e4 : (p >>> j).getLsbD 0 = decide ((p >>> j).toNat % 2 = 1) := by
    rw [BitVec.getLsbD, Nat.testBit_zero]
  rw [e4, Bool.eq_iff_iff, beq_iff_eq, decide_eq_true_eq]
  omega
theorem u32_shr (x : BitVec 32) (j : Nat) : reg32 x / 2 ^ j = reg32 (x >>> j) := by
  unfold reg32
  rw [BitVec.toNat_ushiftRight, Nat.shiftRight_eq_div_pow]
  simp
theorem mask_eq (y x : BitVec 32) : bits .and .u32 (reg32 y) (-bits .and .u32 (reg32 x) 1 % 4294967296) = reg32 (if x.getLsbD 0 then y else 0#32) := by
  have e2 : bits .and .u32 (reg32 x) 1 = ((x.toNat % 2 : Nat) : Int) := by
    show IntKind.u32.wrap (((BitVec.ofInt 32 (reg32 x)) &&& 1#32).toNat : Int) = _
    rw [ofInt_u32, wrap_u32v]; unfold reg32
    rw [BitVec.toNat_and]
    congr 1
    exact Nat.and_two_pow_sub_one_eq_mod _ 1
  have e4 : x.getLsbD 0 = decide (x.toNat % 2 = 1) := by
    rw [BitVec.getLsbD, Nat.testBit_zero]
  rw [e2, e4]
  have h2 : x.toNat % 2 = 0 ∨ x.toNat % 2 = 1 := by omega
  rcases h2 with h | h
  · rw [h]
    show IntKind.u32.wrap (((BitVec.ofInt 32 (reg32 y)) &&& (BitVec.ofInt 32 (-((0 : Nat) : Int) % 4294967296))).toNat : Int) = _
    rw [show BitVec.ofInt 32 (-((0 : Nat) : Int) % 4294967296) = 0#32 by decide, BitVec.and_zero, wrap_u32v]; rfl
  · rw [h]
    show IntKind.u32.wrap (((BitVec.ofInt 32 (reg32 y)) &&& (BitVec.ofInt 32 (-((1 : Nat) : Int) % 4294967296))).toNat : Int) = _
    rw [show BitVec.ofInt 32 (-((1 : Nat) : Int) % 4294967296) = BitVec.allOnes 32 by decide, BitVec.and_allOnes, ofInt_u32, wrap_u32v]; rfl
theorem one_eq (x : BitVec 32) : bits .xor .u32 (reg32 x / 2) (bits .and .u32 2197175160 (-bits .and .u32 (reg32 x) 1 % 4294967296)) = reg32 (one x) := by
  have e : reg32 x / (2 : Int) = reg32 (x >>> 1) := u32_shr x 1
  rw [show (2197175160 : Int) = reg32 2197175160#32 from rfl, mask_eq, e, bits32]; rfl
theorem of_eq (o y x : BitVec 32) (k : Nat) : bits .xor .u32 (reg32 o) (bits .and .u32 (reg32 y) (-bits .and .u32 (reg32 x / 2 ^ k) 1 % 4294967296)) = reg32 (o ^^^ (if x.getLsbD k then y else 0#32)) := by
  rw [u32_shr, mask_eq, bits32, BitVec.getLsbD_ushiftRight, Nat.add_zero]
def goodB (xs : List Int) : Bool := decide (4 ≤ xs.length) && eqB (markL xs) xs
theorem goodB_short {xs : List Int} (h : xs.length < 4) : goodB xs = false := by
  unfold goodB
  rw [decide_eq_false (by omega)]; rfl
theorem goodB_long {xs : List Int} (h : 4 ≤ xs.length) : goodB xs = eqB (markL xs) xs := by
  unfold goodB
  rw [decide_eq_true h]; rfl
theorem below_drewN {B : Nat} {a w : World} (h : Below B a w) (n : Nat) : Below B a (w.drewN n) := ⟨h.os, h.tape, h.output, h.size, h.block⟩
set_option maxHeartbeats 1000000 in
theorem good_any (a : Option Addr) (n cap : Nat) (xs : List Int) (w : World) (hr : ReadsB w a n cap xs) (hg : Fours w) :
    Calls Tryd.prog 12 #[.slice a n cap] w fun e w' => e = .returned (.bool (goodB xs)) ∧ Below w.heap.size w w' := by
  have HR := Lib.hid hr
  have HG := Lib.hid hg
  have hl := Lib.hid hr.len
  have hb := Lib.hid hr.bound
  clear hr hg
  by_cases h : n < 4
  · go_enter Tryd.func12, Tryd.ntmps12
    go_wp2_with (go_at_call 11; refine (mark_short _ _ _ _ _ HR.out h).mono ?_; rintro e w' ⟨rfl, rfl⟩)
    go_ret
    exact ⟨ret_bool (goodB_short (by rw [hl.out]; exact h)).symm, Below.refl _ _⟩
  · go_enter Tryd.func12, Tryd.ntmps12
    go_wp2_with (first | (go_at_call 11; refine (mark_any _ _ _ _ _ HR.out HG.out (by omega)).mono ?_; rintro e w1 ⟨v1, rfl, ho, hB⟩; obtain ⟨a1, c1, rfl, hr1⟩ := ho.reads (markL_bytes (HR.out).byte) (by rw [markL_length (by rw [hl.out]; omega), hl.out]; exact hb.out); have HR1 := Lib.hid hr1; have HB1 := Lib.hid hB; clear ho hr1 hB) | (go_at_call 20; refine (equal_any _ _ _ _ _ _ _ _ _ HR1.out ((HR.out).below HB1.out)).mono ?_; rintro e w2 ⟨rfl, k2, rfl⟩))
    go_ret
    exact ⟨ret_bool (goodB_long (by rw [hl.out]; omega)).symm, below_drewN HB1.out _⟩
theorem bstep {w W W' : World} (h : Below w.heap.size w W) (k : Below W.heap.size W W') : Below w.heap.size w W' := h.trans (k.mono h.size)
theorem balloc {w W : World} (h : Below w.heap.size w W) (o : Obj) : Below w.heap.size w (W.alloc o) := h.alloc h.size o
theorem markL_def (xs : List Int) : markL xs = xs.take (xs.length - 4) ++ sum4 (sumOf (xs.take (xs.length - 4))) := rfl
theorem markL_twice {xs : List Int} (h : 4 ≤ xs.length) : markL (markL xs) = markL xs := by
  have hl := markL_length h
  have e : (markL xs).take (xs.length - 4) = xs.take (xs.length - 4) := by
    unfold markL
    rw [List.take_append_of_le_length (by simp), List.take_take, Nat.min_self]
  rw [markL_def (markL xs), hl, e]; rfl
theorem goodB_mark {xs : List Int} (h : 4 ≤ xs.length) : goodB (markL xs) = true := by
  rw [goodB_long (by rw [markL_length h]; exact h), markL_twice h]
  exact beq_self_eq_true _
theorem good_reg {l : List Int} (hb : IsBytes l) (h : 4 ≤ l.length) : goodB l = true ↔ reg ones l = R := by
  rw [goodB_long h]
  obtain ⟨m, hm⟩ : ∃ m, l.length = m + 4 := ⟨l.length - 4, by omega⟩
  have hs : l = l.take m ++ l.drop m := (List.take_append_drop m l).symm
  have hd : (l.drop m).length = 4 := by simp; omega
  obtain ⟨a, b, c, d, e4⟩ : ∃ a b c d, l.drop m = [a, b, c, d] := by
    match l.drop m, hd with
    | [a, b, c, d], _ => exact ⟨a, b, c, d, rfl⟩
  have hmem : ∀ x ∈ l.drop m, Byte x := fun x hx => hb x (List.mem_of_mem_drop hx)
  rw [e4] at hmem hs
  have g := good_iff (l.take m) a b c d (hmem a (by simp)) (hmem b (by simp)) (hmem c (by simp)) (hmem d (by simp))
  rw [← hs] at g
  rw [← g]
  unfold eqB markL
  rw [show l.length - 4 = m by omega, beq_iff_eq]
  unfold sumOf sumMore
  constructor
  · intro h1
    have h2 : l.take m ++ sum4 (more 0#32 (l.take m)) = l.take m ++ [a, b, c, d] := h1.trans hs
    exact (List.append_cancel_left h2).symm
  · intro h1
    rw [← h1]; exact hs.symm
theorem xorI_zero {x : Int} (h : Byte x) : xorI x 0 = x := by
  obtain ⟨n, rfl⟩ := Int.eq_ofNat_of_zero_le h.1
  have := h.2
  unfold xorI
  rw [BitVec.ofInt_natCast, show BitVec.ofInt 8 0 = 0#8 by decide, BitVec.xor_zero, BitVec.toNat_ofNat, Nat.mod_eq_of_lt (by omega)]
theorem set_same {l : List Int} {k : Nat} (hk : k < l.length) : l.set k (l.getD k 0) = l := by
  apply List.ext_getElem?
  intro i
  by_cases e : k = i
  · subst e
    rw [List.getElem?_set_self hk, List.getD_eq_getElem?_getD, List.getElem?_eq_getElem hk]; rfl
  · rw [List.getElem?_set_ne e]
/-- a marked text with a byte turned is good just where nothing is turned -/
theorem good_turned {xs : List Int} (hb : IsBytes xs) (h : 4 ≤ xs.length) (k : Nat) (hk : k < xs.length) (c : Int) (hc : Byte c) :
    goodB ((markL xs).set k (xorI ((markL xs).getD k 0) c)) = (c == 0) := by
  have hy := markL_bytes hb
  have hl := markL_length h
  have hz : IsBytes ((markL xs).set k (xorI ((markL xs).getD k 0) c)) := set_bytes _ _ _ hy (xorI_byte _ _)
  have hr := (good_reg hy (by omega)).1 (goodB_mark h)
  by_cases h0 : c = 0
  · subst h0
    have hbk : Byte ((markL xs).getD k 0) := hy _ (by rw [List.getD_eq_getElem?_getD, List.getElem?_eq_getElem (by omega)]; simp)
    rw [xorI_zero hbk, set_same (by omega), goodB_mark h]; rfl
  · have : ¬ goodB ((markL xs).set k (xorI ((markL xs).getD k 0) c)) = true := by
      rw [good_reg hz (by simp; omega), ← hr]
      exact set_ne _ _ (by omega) _ _ hy hc h0
    rw [Bool.eq_false_iff.mpr this]
    exact (beq_eq_false_iff_ne.mpr h0).symm
def abx : List Int := [97, 98, 120, 120, 120, 120]
def digits9 : List Int := [49, 50, 51, 52, 53, 54, 55, 56, 57]
theorem sum9 : reg32 (sumOf digits9) = 3808858755 := by decide +kernel
theorem abx_bad : goodB abx = false := by decide +kernel
theorem abx_bytes : IsBytes abx := by intro c hc; simp [abx] at hc; rcases hc with rfl | rfl | rfl <;> (constructor <;> decide)
theorem digits9_bytes : IsBytes digits9 := by intro c hc; simp [digits9] at hc; rcases hc with rfl | rfl | rfl | rfl | rfl | rfl | rfl | rfl | rfl <;> (constructor <;> decide)
set_option maxRecDepth 100000 in
set_option maxHeartbeats 4000000 in
theorem sure_any (w : World) (hg : Fours w) :
    Calls Tryd.prog 10 #[] w fun e w' => e = .returned (.bool true) ∧ Below w.heap.size w w' := by
  have HG := Lib.hid hg
  have HB := Lib.hid (Below.refl w.heap.size w)
  have s9 := sum9
  have kc := fun (w : World) (C : Array Value) (n c : Nat) => Lib.run_convert_bytes_const (P := Tryd.prog) w 22 5 C n c Tryd.underlying22 Tryd.underlying5
  have g1 := goodB_mark (xs := abx) (by decide)
  have g2 := abx_bad
  clear hg
  go_enter Tryd.func10, Tryd.ntmps10
  go_wp2_with (first | (go_at_call 11; refine Calls.mono (mark_any _ _ _ abx _ ?_ ?_ ?_) ?_; exact built_reads _ _ _ abx rfl abx_bytes (by decide); exact (HG.out).below (balloc HB.out _); decide; rintro e w1 ⟨v1, rfl, ho, hB⟩; obtain ⟨a1, c1, rfl, hr1⟩ := ho.reads (markL_bytes abx_bytes) (by rw [markL_length (by decide)]; decide); have HR1 := Lib.hid hr1; have HB1 := Lib.hid (bstep (balloc HB.out _) hB); clear HB ho hr1 hB) | (go_at_call 13; refine Calls.mono (sum_any _ _ _ digits9 _ ?_ ?_) ?_; exact built_reads _ _ _ digits9 rfl digits9_bytes (by decide); exact (HG.out).below (balloc HB1.out _); rintro e w2 ⟨rfl, rfl⟩) | (go_at_call 12; refine Calls.mono (good_any _ _ _ (markL abx) _ ?_ ?_) ?_; with_reducible exact (HR1.out).below ((Below.refl _ _).alloc (Nat.le_refl _) _); exact (HG.out).below (balloc HB1.out _); rintro e w3 ⟨rfl, hB⟩; have HB3 := Lib.hid (bstep (balloc HB1.out _) hB); clear hB) | (go_at_call 12; refine Calls.mono (good_any _ _ _ abx _ ?_ ?_) ?_; exact built_reads _ _ _ abx rfl abx_bytes (by decide); exact (HG.out).below (balloc HB3.out _); rintro e w4 ⟨rfl, hB⟩; have HB4 := Lib.hid (bstep (balloc HB3.out _) hB); clear hB))
  go_ret
  exact ⟨rfl, HB4.out⟩
end Go.Proofs.YtmgnabfmmmagkaaDoor
