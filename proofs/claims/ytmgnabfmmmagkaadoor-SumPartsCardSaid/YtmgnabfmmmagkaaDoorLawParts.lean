/-
  The walk of the law SumParts, at this seat's numbers.
-/
import Derived.Test.YtmgnabfmmmagkaaDoorSumD
import Derived.StillTailTactics
set_option linter.unusedVariables false
set_option linter.unusedSimpArgs false
namespace Go.Proofs.YtmgnabfmmmagkaaDoor
open Go Go.RowKit Crc

/-- the rest of a slice, wherever it begins: what the operation gives, and how it reads -/
theorem slice_rest {w : World} {a : Option Addr} {n cap m : Nat} {xs : List Int} (h : ReadsB w a n cap xs) (hm : m ≤ n) :
    ∃ A : Option Addr, (∀ W, (Instr.slice 22 (.slice a n cap) (some (.int .i64 (m : Int))) none none).run Tryd.prog W = .ok (.slice A (n - m) (cap - m)) W) ∧ ReadsB w A (n - m) (cap - m) (xs.drop m) := by
  have hs : ∀ W, (Instr.slice 22 (.slice a n cap) (some (.int .i64 (m : Int))) none none).run Tryd.prog W = .ok (sliced a m n cap 1) W := by
    intro W
    have e := run_slice_l (P := Tryd.prog) W 22 a n cap (by rw [show Tryd.prog.elem 22 = 5 by kernel_rfl]; exact Tryd.underlying22) .i64 (m : Int) (by omega) (by omega)
    rw [e]
    have e2 : (sizeOf (Tryd.prog.elem 22)).run Tryd.prog W = .ok 1 W := by kernel_rfl
    rw [e2]
    rfl
  have hl := h.len
  have hf := h.fits
  cases a with
  | none =>
    obtain ⟨rfl, rfl⟩ := h.nil rfl
    obtain rfl : m = 0 := by omega
    obtain rfl : xs = [] := List.eq_nil_of_length_eq_zero hl
    exact ⟨none, hs, h⟩
  | some ad =>
    by_cases hc : cap = m
    · refine ⟨some ad, fun W => by rw [hs W]; simp [sliced, hc], ?_⟩
      have hnm : n = m := by omega
      subst hnm
      refine ⟨by simp [hl], by omega, by omega, by have := h.room; omega, fun e => (by cases e), fun c hcm => h.byte c (List.mem_of_mem_drop hcm), fun h0 => by omega⟩
    · rcases Nat.eq_zero_or_pos n with h0 | h0
      · subst h0
        obtain rfl : m = 0 := by omega
        refine ⟨some (ad.add 0), fun W => by rw [hs W]; simp [sliced, hc], ?_⟩
        refine ⟨by simp [hl], by omega, by omega, by have := h.room; omega, fun e => (by cases e), fun c hcm => h.byte c (List.mem_of_mem_drop hcm), fun h0 => by omega⟩
      · obtain ⟨b, off, e, hcc⟩ := h.addr h0
        cases e
        exact ⟨some ⟨b, off + m, none⟩, fun W => by rw [hs W]; simp [sliced, hc, addB], h.drop hm⟩
theorem noughts_0 (n : Int) (w : World) (hn : -9223372036854775808 ≤ n ∧ n ≤ 9223372036854775807) :
    Calls Tryd.prog 16 #[.int .u32 0, .int .i64 n] w fun e w' => e = .returned (.int .u32 (reg32 (noughtsI 0#32 n))) ∧ Below w.heap.size w w' := noughts_all 0#32 n w hn
theorem parts_eq (xs : List Int) (k m : Nat) (hb : IsBytes xs) (hl : xs.length = k + m) (hm : m ≤ 1099511627776) :
    noughtsI (sumOf (xs.take k)) (m : Int) ^^^ noughtsI 0#32 (m : Int) ^^^ sumOf (xs.drop k) = sumOf xs := by
  rw [noughtsI_nat _ _ hm, noughtsI_nat _ _ hm]
  have hs : ∀ l, sumOf l = notb (reg (notb 0#32) l) := fun _ => rfl
  have hp : xs = xs.take k ++ xs.drop k := (List.take_append_drop k xs).symm
  have e0 : notb 0#32 = ones := by decide
  have hz : List.zipWith xorI (List.replicate m 0) (xs.drop k) = xs.drop k := by
    apply List.ext_getElem
    · simp; omega
    · intro i h1 h2
      rw [List.getElem_zipWith]
      have hby : Byte ((xs.drop k)[i]'h2) := hb _ (List.mem_of_mem_drop (List.getElem_mem h2))
      rw [List.getElem_replicate]
      obtain ⟨n, hn⟩ := Int.eq_ofNat_of_zero_le hby.1
      rw [hn] at hby ⊢
      have h3 := hby.2
      unfold xorI
      rw [BitVec.ofInt_natCast, show BitVec.ofInt 8 0 = 0#8 by decide, BitVec.zero_xor, BitVec.toNat_ofNat, Nat.mod_eq_of_lt (by omega)]
  have hr : ∀ F : BitVec 32, reg (F ^^^ ones ^^^ ones) (xs.drop k) = iter one (8 * m) (F ^^^ ones) ^^^ reg ones (xs.drop k) := by
    intro F
    have := reg_xor (List.replicate m 0) (xs.drop k) (F ^^^ ones) ones (by simp; omega) (by intro c hc; rw [List.mem_replicate] at hc; rw [hc.2]; exact ⟨by decide, by decide⟩) (fun c hc => hb c (List.mem_of_mem_drop hc))
    rw [hz, reg_zeros] at this
    exact this
  have hx : ∀ F : BitVec 32, F ^^^ ones ^^^ ones = F := by
    intro F
    rw [BitVec.xor_assoc]; simp
  conv => rhs; rw [hs, hp, reg_append, e0]
  have hR := hr (reg ones (xs.take k))
  rw [hx, iter_xor] at hR
  rw [hR]
  unfold noughtsOf
  rw [hs, hs, e0, notb_notb]
  have hn : ∀ x, notb x = x ^^^ ones := ones_not
  simp only [hn]
  generalize iter one (8 * m) (reg ones (List.take k xs)) = A
  generalize iter one (8 * m) ones = B
  generalize reg ones (List.drop k xs) = C
  have : A ^^^ ones ^^^ (B ^^^ ones) ^^^ (C ^^^ ones) = (A ^^^ B ^^^ C ^^^ ones) ^^^ (ones ^^^ ones) := by ac_rfl
  rw [this]; simp
set_option maxRecDepth 100000 in
set_option maxHeartbeats 4000000 in
theorem lawParts_any (a : Option Addr) (n cap : Nat) (at_ : Int) (xs : List Int) (w : World) (ha : ReadsB w a n cap xs) (hat : (Lit.int .i64 at_).wf = true) (hg : Fours w) :
    Calls Tryd.prog 8 #[.slice a n cap, .int .i64 at_] w fun e w' => e = .returned (.bool true) ∧ Below w.heap.size w w' := by
  have hn := ha.bound
  have HA := Lib.hid ha
  have HG := Lib.hid hg
  clear ha hg hat
  have HB := Lib.hid (Below.refl w.heap.size w)
  by_cases h1 : 5000 < n
  · go_enter Tryd.func8, Tryd.ntmps8
    go_wp2_with (go_at_call 10; refine Calls.mono (sure_any _ ?_) ?_; exact HG.out; rintro e w9 ⟨rfl, hB⟩)
    go_ret
    exact ⟨rfl, hB⟩
  obtain ⟨k, ek, hk'⟩ := place_u64 at_ (n + 1) (by omega) (by omega)
  rw [show ((n + 1 : Nat) : Int) = (n : Int) + 1 by omega] at ek
  have hk : k ≤ n := by omega
  have f1 := HA.out.fits
  have f2 : k ≤ cap := by omega
  obtain ⟨A, hsl, hrd⟩ := slice_rest HA.out hk
  have HD := Lib.hid hrd
  have HT := Lib.hid (HA.out.take hk)
  clear hrd
  have e1 : (reg32 (sumMore (sumOf (xs.take k)) (xs.drop k)) == reg32 (sumOf xs)) = true := beq_u32 (by
    unfold sumOf sumMore
    rw [← more_append, List.take_append_drop])
  have e2 : (reg32 (noughtsI (sumOf (xs.take k)) ((n : Int) - (k : Int)) ^^^ noughtsI 0#32 ((n : Int) - (k : Int)) ^^^ sumOf (xs.drop k)) == reg32 (sumOf xs)) = true := beq_u32 (by
    rw [show (n : Int) - (k : Int) = ((n - k : Nat) : Int) by omega]
    exact parts_eq xs k (n - k) HA.out.byte (by rw [HA.out.len]; omega) (by omega))
  have b1 := bits32 (noughtsI (sumOf (xs.take k)) ((n : Int) - (k : Int))) (noughtsI 0#32 ((n : Int) - (k : Int)))
  have b2 := bits32 (noughtsI (sumOf (xs.take k)) ((n : Int) - (k : Int)) ^^^ noughtsI 0#32 ((n : Int) - (k : Int))) (sumOf (xs.drop k))
  go_enter Tryd.func8, Tryd.ntmps8
  go_wp2
  refine wp_region_still_tail 8 (by kernel_rfl) (by kernel_rfl) ?_
  simp only [List.take_succ_cons, List.take_zero, List.drop_succ_cons, List.drop_zero]
  repeat (first | still_step | (refine wpStill_step (fun K hK => ?_); go_simp; first
        | (refine ⟨_, sum_still _ _ _ (xs.take k) _ ?_ ?_, hK _ ?_⟩; with_reducible exact ReadsB.below HT.out (by repeat (first | (with_reducible exact HB.out) | (with_reducible exact Below.refl _ _) | with_reducible apply balloc | with_reducible apply Below.drew | with_reducible apply below_drewN)); exact (HG.out).below (by repeat (first | (with_reducible exact HB.out) | (with_reducible exact Below.refl _ _) | with_reducible apply balloc | with_reducible apply Below.drew | with_reducible apply below_drewN)); clear hK K)
        | (refine ⟨_, sum_still _ _ _ (xs.drop k) _ ?_ ?_, hK _ ?_⟩; with_reducible exact ReadsB.below HD.out (by repeat (first | (with_reducible exact HB.out) | (with_reducible exact Below.refl _ _) | with_reducible apply balloc | with_reducible apply Below.drew | with_reducible apply below_drewN)); exact (HG.out).below (by repeat (first | (with_reducible exact HB.out) | (with_reducible exact Below.refl _ _) | with_reducible apply balloc | with_reducible apply Below.drew | with_reducible apply below_drewN)); clear hK K)))
  refine wpStill_nil ?_
  go_wp2_with (first | (go_at_call 15; with_reducible refine Calls.mono (more_any (sumOf (xs.take k)) _ _ _ (xs.drop k) _ ?_ ?_) ?_; exact ReadsB.below HD.out (by repeat (first | (with_reducible exact Below.refl _ _) | with_reducible apply balloc | with_reducible apply Below.drew | with_reducible apply below_drewN)); exact (HG.out).below (by repeat (first | (with_reducible exact Below.refl _ _) | with_reducible apply balloc | with_reducible apply Below.drew | with_reducible apply below_drewN)); rintro e w2 ⟨rfl, rfl⟩) | (go_at_call 13; with_reducible refine Calls.mono (sum_any _ _ _ xs _ ?_ ?_) ?_; exact ReadsB.below HA.out (by repeat (first | (with_reducible exact HB.out) | (with_reducible exact Below.refl _ _) | with_reducible apply balloc | with_reducible apply Below.drew | with_reducible apply below_drewN)); exact (HG.out).below (by repeat (first | (with_reducible exact HB.out) | (with_reducible exact Below.refl _ _) | with_reducible apply balloc | with_reducible apply Below.drew | with_reducible apply below_drewN)); rintro e w2 ⟨rfl, rfl⟩) | (go_at_call 16; with_reducible refine Calls.mono (noughts_all (sumOf (xs.take k)) _ _ ?_) ?_; (constructor <;> omega); rintro e w2 ⟨rfl, hB⟩; have n0 := Lib.hid (bstep (show Below w.heap.size w _ from (by repeat (first | (with_reducible exact HB.out) | (with_reducible exact Below.refl _ _) | with_reducible apply balloc | with_reducible apply Below.drew | with_reducible apply below_drewN))) hB); clear HB hB; have HB := n0; clear n0) | (go_at_call 16; with_reducible refine Calls.mono (noughts_0 _ _ ?_) ?_; (constructor <;> omega); rintro e w2 ⟨rfl, hB⟩; have n0 := Lib.hid (bstep (show Below w.heap.size w _ from (by repeat (first | (with_reducible exact HB.out) | (with_reducible exact Below.refl _ _) | with_reducible apply balloc | with_reducible apply Below.drew | with_reducible apply below_drewN))) hB); clear HB hB; have HB := n0; clear n0) | (go_at_call 10; refine Calls.mono (sure_any _ ?_) ?_; exact (HG.out).below (by repeat (first | (with_reducible exact HB.out) | (with_reducible exact Below.refl _ _) | with_reducible apply balloc | with_reducible apply Below.drew | with_reducible apply below_drewN)); rintro e w9 ⟨rfl, hB⟩; have HB9 := Lib.hid (bstep (show Below w.heap.size w _ from (by repeat (first | (with_reducible exact HB.out) | (with_reducible exact Below.refl _ _) | with_reducible apply balloc | with_reducible apply Below.drew | with_reducible apply below_drewN))) hB); clear hB))
  go_ret
  exact ⟨rfl, HB9.out⟩
end Go.Proofs.YtmgnabfmmmagkaaDoor
