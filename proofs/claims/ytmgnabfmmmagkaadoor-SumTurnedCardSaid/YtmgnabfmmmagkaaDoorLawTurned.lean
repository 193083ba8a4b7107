/-
  The walk of the law SumTurned, at this seat's numbers.
-/
import Derived.Test.YtmgnabfmmmagkaaDoorSumC
import Derived.StillTailTactics
import Derived.Deep.RegionLaw
import Derived.BigRegion
set_option linter.unusedVariables false
set_option linter.unusedSimpArgs false
namespace Go.Proofs.YtmgnabfmmmagkaaDoor
open Go Go.RowKit Crc

theorem min4_run (P : Program) (ats : Array TypeId) (ty : TypeId) (a b c d : Nat) (m : Nat) (hm : m = min (min (min a b) c) d) (W : World) :
    (Builtin.min_ ats ty #[.int .i64 (a : Int), .int .i64 (b : Int), .int .i64 (c : Int), .int .i64 (d : Int)]).run P W = .ok (.int .i64 (m : Int)) W := by
  have e2 : ∀ x y : Nat, Builtin.min2 (.int .i64 (x : Int)) (.int .i64 (y : Int)) = pure (.int .i64 ((min x y : Nat) : Int)) := by
    intro x y
    simp only [Builtin.min2]
    congr 2
    split <;> omega
  subst hm
  simp only [Builtin.min_, List.foldlM_cons, List.foldlM_nil, e2, Sem.run_bind, Sem.run_pure, Result.andThen, pure_bind]
def three (xs ys zs : List Int) : List Int := List.zipWith xorI (List.zipWith xorI xs ys) zs
theorem three_length {xs ys zs : List Int} {m : Nat} (h1 : xs.length = m) (h2 : ys.length = m) (h3 : zs.length = m) : (three xs ys zs).length = m := by simp [three, h1, h2, h3]
theorem three_bytes (xs ys zs : List Int) : IsBytes (three xs ys zs) := by
  intro c hc
  unfold three at hc
  rw [List.mem_iff_getElem] at hc
  obtain ⟨i, hi, rfl⟩ := hc
  rw [List.getElem_zipWith]
  exact xorI_byte _ _
theorem three_take {xs ys zs : List Int} {m k : Nat} (h1 : xs.length = m) (h2 : ys.length = m) (h3 : zs.length = m) (hk : k < m) :
    (three xs ys zs).take (k + 1) = (three xs ys zs).take k ++ [xorI (xorI (xs.getD k 0) (ys.getD k 0)) (zs.getD k 0)] := by
  rw [List.take_succ_eq_append_getElem (by rw [three_length h1 h2 h3]; exact hk)]
  congr 2
  simp only [three, List.getElem_zipWith, List.getD_eq_getElem?_getD]
  rw [List.getElem?_eq_getElem (by omega), List.getElem?_eq_getElem (by omega), List.getElem?_eq_getElem (by omega)]
  rfl
theorem three_sum (xs ys zs : List Int) {m : Nat} (h1 : xs.length = m) (h2 : ys.length = m) (h3 : zs.length = m) (b1 : IsBytes xs) (b2 : IsBytes ys) (b3 : IsBytes zs) :
    (u32 ((sumOf xs ^^^ sumOf ys) ^^^ sumOf zs) == u32 (sumOf (three xs ys zs))) = true := by
  have hz : IsBytes (List.zipWith xorI xs ys) := by
    intro c hc
    rw [List.mem_iff_getElem] at hc
    obtain ⟨i, hi, rfl⟩ := hc
    rw [List.getElem_zipWith]
    exact xorI_byte _ _
  have r1 := reg_xor xs ys ones ones (by omega) b1 b2
  have r2 := reg_xor (List.zipWith xorI xs ys) zs (ones ^^^ ones) ones (by simp; omega) hz b3
  have hs : ∀ l, sumOf l = reg ones l ^^^ ones := by
    intro l
    unfold sumOf sumMore more
    rw [ones_not (reg _ _), ones_not 0#32]; simp
  have e : sumOf (three xs ys zs) = (sumOf xs ^^^ sumOf ys) ^^^ sumOf zs := by
    rw [hs, hs, hs, hs]
    unfold three
    have h0 : ones ^^^ ones ^^^ ones = ones := by decide
    rw [h0] at r2
    rw [r2, r1]
    have hk : ∀ a b c o : BitVec 32, a ^^^ b ^^^ c ^^^ o = (a ^^^ o) ^^^ (b ^^^ o) ^^^ (c ^^^ o) := by
      intro a b c o
      have : (a ^^^ o) ^^^ (b ^^^ o) ^^^ (c ^^^ o) = a ^^^ b ^^^ c ^^^ o ^^^ (o ^^^ o) := by ac_rfl
      rw [this]; simp
    exact hk _ _ _ _
  rw [e]
  exact beq_self_eq_true _
set_option maxRecDepth 100000 in
set_option maxHeartbeats 4000000 in
theorem turned_any (a b c : Option Addr) (na nb nc ka kb kc : Nat) (xs ys zs : List Int) (w : World) (ha : ReadsB w a na ka xs) (hb : ReadsB w b nb kb ys) (hc : ReadsB w c nc kc zs) (hg : Fours w) :
    Calls Tryd.prog 4 #[.slice a na ka, .slice b nb kb, .slice c nc kc] w fun e w' => e = .returned (.bool true) ∧ Below w.heap.size w w' := by
  have ba := ha.bound
  have bb := hb.bound
  have bc := hc.bound
  have HG := Lib.hid hg
  obtain ⟨m, hm⟩ : ∃ m, m = min (min (min na nb) nc) 2000 := ⟨_, rfl⟩
  have hmin : ∀ W, (Builtin.min_ #[3, 3, 3, 3] 3 #[.int .i64 (na : Int), .int .i64 (nb : Int), .int .i64 (nc : Int), .int .i64 2000]).run Tryd.prog W = .ok (.int .i64 (m : Int)) W := min4_run Tryd.prog #[3, 3, 3, 3] 3 na nb nc 2000 m hm
  have m1 : m ≤ na := by omega
  have m2 : m ≤ nb := by omega
  have m3 : m ≤ nc := by omega
  have m4 : m ≤ 2000 := by omega
  clear hm
  have HA := Lib.hid (ha.take m1)
  have HB := Lib.hid (hb.take m2)
  have HC := Lib.hid (hc.take m3)
  clear ha hb hc hg
  generalize xs.take m = xs at *
  generalize ys.take m = ys at *
  generalize zs.take m = zs at *
  go_enter Tryd.func4, Tryd.ntmps4
  go_wp2
  go_loopw [8, 9] (fun v i wr => ∃ k : Nat, k ≤ m ∧ i = .int .i64 k ∧ OwnB wr w.heap.size v ((three xs ys zs).take k) ∧ Below w.heap.size w wr) (fun _ i _ => m - (intOf i).toNat)
  case atStart => exact ⟨0, Nat.zero_le _, rfl, World.ownsRow_nil _ _ _ _, Below.refl _ _⟩
  case round =>
    obtain ⟨k, hk, rfl, ho, hB⟩ := hrel
    have HO := Lib.hid ho
    have HBe := Lib.hid hB
    clear ho hB
    by_cases hlt : k < m
    · have hT := Lib.hid (three_take HA.out.len HB.out.len HC.out.len hlt)
      obtain ⟨ab, ao, rfl, c0⟩ := ((HA.out).below HBe.out).addr (by omega)
      obtain ⟨bb', bo, rfl, c1⟩ := ((HB.out).below HBe.out).addr (by omega)
      obtain ⟨cb, co, rfl, c2⟩ := ((HC.out).below HBe.out).addr (by omega)
      replace c0 := c0 k hlt
      replace c1 := c1 k hlt
      replace c2 := c2 k hlt
      generalize xs.getD k 0 = X at *
      generalize ys.getD k 0 = Y at *
      generalize zs.getD k 0 = Z at *
      have e1 := xor8 X Y
      have e2 := xor8 (xorI X Y) Z
      have i1 : (k : Int) < (na : Int) := by omega
      have i2 : (k : Int) < (nb : Int) := by omega
      have i3 : (k : Int) < (nc : Int) := by omega
      go_wp2
      go_region_law? (refine step_append_bytes rfl (.tmp 22) (.tmp 37) rfl w.heap.size u8 ((three xs ys zs).take k) rfl ?_ (some ⟨wr.heap.size, 0, none⟩) 1 1 [xorI (xorI X Y) Z] rfl ?_ ?_ ?_ ?_; exact OwnB.below HO.out (by repeat (first | (with_reducible exact Below.refl _ _) | with_reducible apply balloc | with_reducible apply Below.drew | with_reducible apply below_drewN)); exact ReadsB.below (built_reads wr #[.int .u8 (xorI (xorI X Y) Z)] (0, 0) [xorI (xorI X Y) Z] rfl (by intro c hc; simp at hc; subst hc; exact xorI_byte _ _) (by simp)) (by repeat (first | (with_reducible exact Below.refl _ _) | with_reducible apply balloc | with_reducible apply Below.drew | with_reducible apply below_drewN)); (simp; omega); (have := HBe.out.size; simp; omega); intro v2 w2 ho hg; have HB2 := Lib.hid ((show Below w.heap.size w _ from (by repeat (first | (with_reducible exact HBe.out) | (with_reducible exact Below.refl _ _) | with_reducible apply balloc | with_reducible apply Below.drew | with_reducible apply below_drewN))).grown hg (by have := HBe.out.size; simp; omega) (fun k hk => own_base (HO.out) k hk)); have HO2 := Lib.hid ho; clear ho hg)
      all_goals
        go_wp2
        go_roundw
        case rel => exact ⟨k + 1, by omega, by go_num, by rw [hT.out]; exact HO2.out, HB2.out⟩
        case measure => simp [intOf]; omega
    · obtain rfl : k = m := by omega
      rw [List.take_of_length_le (by rw [three_length HA.out.len HB.out.len HC.out.len]; exact Nat.le_refl _)] at HO
      have hD : (three xs ys zs).length = k := three_length HA.out.len HB.out.len HC.out.len
      obtain ⟨ad, cd, rfl, hrd⟩ := OwnB.reads HO.out (three_bytes xs ys zs) (by omega)
      rw [hD] at hrd ⊢
      clear hD
      have HD := Lib.hid hrd
      clear hrd
      have e1 := bits32 (sumOf xs) (sumOf ys)
      have e2 := bits32 (sumOf xs ^^^ sumOf ys) (sumOf zs)
      have e3 := three_sum xs ys zs HA.out.len HB.out.len HC.out.len HA.out.byte HB.out.byte HC.out.byte
      have f1 := HA.out.fits
      have f2 := HB.out.fits
      have f3 := HC.out.fits
      go_wp2
      refine wp_region_still_tail 16 (by kernel_rfl) (by kernel_rfl) ?_
      simp only [List.take_succ_cons, List.take_zero, List.drop_succ_cons, List.drop_zero]
      repeat (first | still_step | (refine wpStill_step (fun K hK => ?_); go_simp; first
        | (refine ⟨_, sum_still _ _ _ xs _ ?_ ?_, hK _ ?_⟩; with_reducible exact ReadsB.below HA.out (by repeat (first | (with_reducible exact HBe.out) | (with_reducible exact Below.refl _ _) | with_reducible apply balloc | with_reducible apply Below.drew | with_reducible apply below_drewN)); exact (HG.out).below (by repeat (first | (with_reducible exact HBe.out) | (with_reducible exact Below.refl _ _) | with_reducible apply balloc | with_reducible apply Below.drew | with_reducible apply below_drewN)); clear hK K)
        | (refine ⟨_, sum_still _ _ _ ys _ ?_ ?_, hK _ ?_⟩; with_reducible exact ReadsB.below HB.out (by repeat (first | (with_reducible exact HBe.out) | (with_reducible exact Below.refl _ _) | with_reducible apply balloc | with_reducible apply Below.drew | with_reducible apply below_drewN)); exact (HG.out).below (by repeat (first | (with_reducible exact HBe.out) | (with_reducible exact Below.refl _ _) | with_reducible apply balloc | with_reducible apply Below.drew | with_reducible apply below_drewN)); clear hK K)
        | (refine ⟨_, sum_still _ _ _ zs _ ?_ ?_, hK _ ?_⟩; with_reducible exact ReadsB.below HC.out (by repeat (first | (with_reducible exact HBe.out) | (with_reducible exact Below.refl _ _) | with_reducible apply balloc | with_reducible apply Below.drew | with_reducible apply below_drewN)); exact (HG.out).below (by repeat (first | (with_reducible exact HBe.out) | (with_reducible exact Below.refl _ _) | with_reducible apply balloc | with_reducible apply Below.drew | with_reducible apply below_drewN)); clear hK K)
        | (refine ⟨_, sum_still _ _ _ (three xs ys zs) _ ?_ ?_, hK _ ?_⟩; with_reducible exact ReadsB.below HD.out (by repeat (first | (with_reducible exact Below.refl _ _) | with_reducible apply balloc | with_reducible apply Below.drew | with_reducible apply below_drewN)); exact (HG.out).below (by repeat (first | (with_reducible exact HBe.out) | (with_reducible exact Below.refl _ _) | with_reducible apply balloc | with_reducible apply Below.drew | with_reducible apply below_drewN)); clear hK K)))
      refine wpStill_nil ?_
      go_wp2_with (go_at_call 10; refine Calls.mono (sure_any _ ?_) ?_; exact (HG.out).below (by repeat (first | (with_reducible exact HBe.out) | (with_reducible exact Below.refl _ _) | with_reducible apply balloc | with_reducible apply Below.drew | with_reducible apply below_drewN)); rintro e w9 ⟨rfl, hB⟩; have HB9 := Lib.hid (bstep (show Below w.heap.size w _ from (by repeat (first | (with_reducible exact HBe.out) | (with_reducible exact Below.refl _ _) | with_reducible apply balloc | with_reducible apply Below.drew | with_reducible apply below_drewN))) hB); clear hB)
      go_ret
      exact ⟨rfl, HB9.out⟩
end Go.Proofs.YtmgnabfmmmagkaaDoor
