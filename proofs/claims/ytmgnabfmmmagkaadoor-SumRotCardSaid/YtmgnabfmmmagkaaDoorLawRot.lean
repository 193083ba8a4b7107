/-
  The walk of the law SumRot, at this seat's numbers.
-/
import Derived.Test.YtmgnabfmmmagkaaDoorLawOnce
import Derived.RegionTactic
set_option linter.unusedVariables false
set_option linter.unusedSimpArgs false
namespace Go.Proofs.YtmgnabfmmmagkaaDoor
open Go Go.RowKit Crc

def flips (X : List Int) (ks : Nat → Nat) : Nat → List Int
  | 0 => X
  | j + 1 => flip (flips X ks j) (ks j)
theorem flips_length (X : List Int) (ks : Nat → Nat) (j : Nat) : (flips X ks j).length = X.length := by
  induction j with
  | zero => rfl
  | succ j ih => rw [flips, flip_length, ih]
theorem flips_bytes (X : List Int) (ks : Nat → Nat) (j : Nat) (h : IsBytes X) : IsBytes (flips X ks j) := by
  induction j with
  | zero => exact h
  | succ j ih => exact flip_bytes _ _ ih
theorem pow8 (k : Nat) : (2 : Int) ^ (k % 8) % 256 = 2 ^ (k % 8) := by
  have h : ∀ j : Fin 8, (2 : Int) ^ j.val % 256 = 2 ^ j.val := by decide
  exact h ⟨k % 8, Nat.mod_lt _ (by decide)⟩
theorem flip_bits (l : List Int) (k : Nat) : flip l k = l.set (k / 8) (bits .xor .u8 (l.getD (k / 8) 0) (2 ^ (k % 8) % 256)) := by
  rw [pow8, xor8]; rfl
theorem flips_succ (X : List Int) (ks : Nat → Nat) (j : Nat) : flips X ks (j + 1) = (flips X ks j).set (ks j / 8) (bits .xor .u8 ((flips X ks j).getD (ks j / 8) 0) (2 ^ (ks j % 8) % 256)) := flip_bits _ _
theorem burst_step (X : List Int) (k : Nat) (p : BitVec 32) (j : Nat) : burst X k p (j + 1) = if p.getLsbD j then (burst X k p j).set ((k + j) / 8) (bits .xor .u8 ((burst X k p j).getD ((k + j) / 8) 0) (2 ^ ((k + j) % 8) % 256)) else burst X k p j := by
  rw [burst, flip_bits]
theorem bit_test (p : BitVec 32) (j : Nat) : (bits .and .u32 (u32 p / 2 ^ j) 1 == 1) = p.getLsbD j := by
  have e1 : u32 p / 2 ^ j = u32 (p >>> j) := by
    unfold u32
    rw [BitVec.toNat_ushiftRight, Nat.shiftRight_eq_div_pow]
    simp
  have e2 : bits .and .u32 (u32 (p >>> j)) 1 = (((p >>> j).toNat % 2 : Nat) : Int) := by
    show IntKind.u32.wrap (((BitVec.ofInt 32 (u32 (p >>> j))) &&& 1#32).toNat : Int) = _
    rw [ofInt_u32, wrap_u32v]; unfold u32
    rw [BitVec.toNat_and]
    congr 1
    exact Nat.and_two_pow_sub_one_eq_mod _ 1
  rw [e1, e2]
  have e3 : p.getLsbD j = (p >>> j).getLsbD 0 := by rw [BitVec.getLsbD_ushiftRight]; simp
  rw [e3]
  have e4 : (p >>> j).getLsbD 0 = decide ((p >>> j).toNat % 2 = 1) := by
    rw [BitVec.getLsbD, Nat.testBit_zero]
  rw [e4, Bool.eq_iff_iff, beq_iff_eq, decide_eq_true_eq]
  omega
theorem flips_bad {xs : List Int} (hb : IsBytes xs) (h : 4 ≤ xs.length) (ks : Nat → Nat) (hk : ∀ j, ks j < 8 * xs.length) : goodB (flips (markL xs) ks 3) = false := by
  have hy := markL_bytes hb
  have hl := markL_length h
  have hr := (good_reg hy (by omega)).1 (goodB_mark h)
  rw [Bool.eq_false_iff]
  intro hg
  rw [good_reg (flips_bytes _ _ _ hy) (by rw [flips_length]; omega), ← hr] at hg
  exact three_ne (markL xs) (ks 0) (ks 1) (ks 2) (by rw [hl]; exact hk 0) (by rw [hl]; exact hk 1) (by rw [hl]; exact hk 2) _ hy hg
theorem burst_bad {xs : List Int} (hb : IsBytes xs) (h : 4 ≤ xs.length) (k : Nat) (hk : k + 32 ≤ 8 * xs.length) (p : BitVec 32) (hp : p ≠ 0#32) : goodB (burst (markL xs) k p 32) = false := by
  have hy := markL_bytes hb
  have hl := markL_length h
  have hr := (good_reg hy (by omega)).1 (goodB_mark h)
  rw [Bool.eq_false_iff]
  intro hg
  rw [good_reg (burst_bytes _ _ _ _ hy) (by rw [burst_length]; omega), ← hr] at hg
  exact burst_ne (markL xs) k (by rw [hl]; exact hk) p _ hp hy hg
/-- the three numbers -/
def three3 (a0 a1 a2 : Int) (j : Nat) : Int := if j = 0 then a0 else if j = 1 then a1 else a2
def Box3 (w : World) (b : Nat) (a0 a1 a2 : Int) : Prop := ∀ j, j < 3 → w.cell? ⟨b, j, none⟩ = some (.int .i64 (three3 a0 a1 a2 j))
theorem Box3.below {w w' : World} {b : Nat} {a0 a1 a2 : Int} (h : Box3 w b a0 a1 a2) (hb : Below w.heap.size w w') : Box3 w' b a0 a1 a2 := fun j hj =>
  (hb.cell (World.block_lt_of_cell? w _ (h j hj))).trans (h j hj)
theorem Box3.first {w : World} {b : Nat} {a0 a1 a2 : Int} (h : Box3 w b a0 a1 a2) : w.cell? ⟨b, 0, none⟩ = some (.int .i64 a0) := h 0 (by decide)
set_option maxRecDepth 100000 in
set_option maxHeartbeats 4000000 in
theorem rot_long (a : Option Addr) (m cap : Nat) (a0 a1 a2 : Int) (p : BitVec 32) (xs : List Int) (w : World) (ha : ReadsB w a (m + 4) cap xs) (hg : Fours w) (h2 : m + 4 ≤ 4096) :
    Calls Tryd.prog 3 #[.slice a (m + 4) cap, .agg #[.int .i64 a0, .int .i64 a1, .int .i64 a2], .int .u32 (u32 p)] w fun e w' => e = .returned (.bool true) ∧ Below w.heap.size w w' := by
  have hn := ha.bound
  have HA := Lib.hid ha
  have HG := Lib.hid hg
  clear ha hg
  have HL : Hid ((markL xs).length = m + 4) := Lib.hid (by rw [markL_length (by rw [HA.out.len]; omega), HA.out.len])
  have HY : Hid (IsBytes (markL xs)) := Lib.hid (markL_bytes HA.out.byte)
  have HGM : goodB (markL xs) = true := goodB_mark (by rw [HA.out.len]; omega)
  generalize hX : markL xs = X at *
  have Hbx := Lib.hid (show Below w.heap.size w (w.alloc (.cells #[.int .i64 a0, .int .i64 a1, .int .i64 a2] 23)) from (by repeat (first | (with_reducible exact Below.refl _ _) | with_reducible apply balloc | with_reducible apply Below.drew | with_reducible apply below_drewN)))
  have Hb3 : Hid (Box3 (w.alloc (.cells #[.int .i64 a0, .int .i64 a1, .int .i64 a2] 23)) w.heap.size a0 a1 a2) := Lib.hid (fun j hj => by
    have hh : (w.heap.push (Obj.cells #[.int .i64 a0, .int .i64 a1, .int .i64 a2] 23))[w.heap.size]? = some (.cells #[.int .i64 a0, .int .i64 a1, .int .i64 a2] 23) := by simp
    unfold World.cell? World.alloc
    simp only [hh]
    match j, hj with
    | 0, _ => rfl
    | 1, _ => rfl
    | 2, _ => rfl)
  have hmk := Lib.hid (mark_any a (m + 4) cap xs (w.alloc (.cells #[.int .i64 a0, .int .i64 a1, .int .i64 a2] 23)) (ReadsB.below HA.out Hbx.out) ((HG.out).below Hbx.out) (by omega))
  rw [hX] at hmk
  have HX := Lib.hid hX
  clear hX
  go_enter Tryd.func3, Tryd.ntmps3
  go_wp2_with (first | (go_at_call 11; refine (hmk.out).mono ?_; rintro e w1 ⟨v1, rfl, ho, hB⟩; obtain ⟨ax, c1, rfl, hr1⟩ := ho.reads' HY.out HL.out hn; have HR1 := Lib.hid hr1; have HB1 := Lib.hid hB; clear ho hr1 hB hmk) | (go_at_call 12; refine Calls.mono (good_any _ _ _ X _ ?_ ?_) ?_; with_reducible exact HR1.out; exact (HG.out).below (bstep Hbx.out HB1.out); rintro e w2 ⟨rfl, hB⟩; have HB2 := Lib.hid (bstep HB1.out hB); have HR2 := Lib.hid (ReadsB.below HR1.out hB); clear hB HR1 HB1) | (at_builtin; refine wpList_append_bytes rfl _ _ rfl w2.heap.size (.slice none 0 0) [] rfl ?_ ax (m + 4) c1 X rfl ?_ ?_ ?_ ?_; exact own_nil _ _; with_reducible exact HR2.out; (simp; omega); exact Nat.le_refl _; intro v4 w4 ho hg; rw [List.nil_append] at ho; have HB4 := Lib.hid ((Below.refl w2.heap.size w2).grown hg (Nat.le_refl _) (fun k hk => own_base (own_nil w2 w2.heap.size) k hk)); obtain ⟨g, c4, rfl, hg1, hg2, hg3, hg4, ho4⟩ := OwnB.opened (n := m + 4) ho HL.out (Nat.succ_pos _); have HO4 := Lib.hid ho4; clear ho hg ho4))
  have HW2 := Lib.hid (bstep Hbx.out HB2.out)
  have HC3 := Lib.hid (Box3.below Hb3.out HB2.out)
  have hpl : ∀ j, ∃ k : Nat, wrap64 ((IntKind.u64.wrap (three3 a0 a1 a2 j)).tmod (8 * ((m : Int) + 4))) = (k : Int) ∧ k < 8 * (m + 4) := fun j => by
    have := place_u64 (three3 a0 a1 a2 j) (8 * (m + 4)) (by omega) (by omega)
    rw [show ((8 * (m + 4) : Nat) : Int) = 8 * ((m : Int) + 4) by omega] at this
    exact this
  obtain ⟨ks, hks⟩ : ∃ ks : Nat → Nat, ∀ j, wrap64 ((IntKind.u64.wrap (three3 a0 a1 a2 j)).tmod (8 * ((m : Int) + 4))) = (ks j : Int) ∧ ks j < 8 * (m + 4) := ⟨fun j => (hpl j).choose, fun j => (hpl j).choose_spec⟩
  clear hpl
  have HK := Lib.hid hks
  clear hks
  go_loopw [10] (fun i wr => ∃ j : Nat, j ≤ 3 ∧ i = .int .i64 j ∧ OwnB wr w2.heap.size (.slice (some ⟨g, 0, none⟩) (m + 4) c4) (flips X ks j) ∧ Below w2.heap.size w2 wr) (fun i _ => 3 - (intOf i).toNat)
  case atStart => exact ⟨0, by omega, rfl, HO4.out, HB4.out⟩
  case round =>
    obtain ⟨j, hj, rfl, ho, hB⟩ := hrel
    have HOj := Lib.hid ho
    have HBj := Lib.hid hB
    clear ho hB
    by_cases hlt : j < 3
    · have cj := (Box3.below HC3.out HBj.out) j hlt
      obtain ⟨hk1, hk2⟩ := HK.out j
      have HF := Lib.hid (flips_succ X ks j)
      generalize ks j = k at *
      have cg := HOj.out.cell (by rw [flips_length]; exact HL.out) (k / 8) (by omega)
      have fg := HOj.out.free (by rw [flips_length]; exact HL.out) (k / 8)
      have lt8 : k / 8 < m + 4 := by omega
      generalize (flips X ks j).getD (k / 8) 0 = V at *
      go_wp2
      go_region
      go_wp2
      go_roundw
      case rel => exact ⟨j + 1, by omega, by go_num, by rw [HF.out]; exact (HOj.out.set (by rw [flips_length]; exact HL.out) (k / 8) _).drewB, (HBj.out.setCell hg1 _).drew⟩
      case measure => simp [intOf]; omega
    · obtain rfl : j = 3 := by omega
      have hbad : goodB (flips X ks 3) = false := by
        rw [← HX.out]
        exact flips_bad HA.out.byte (by rw [HA.out.len]; omega) ks (fun j => by rw [HA.out.len]; exact (HK.out j).2)
      have hrY := HOj.out.at_ (flips_bytes X ks 3 HY.out) (by rw [flips_length]; exact HL.out) hn hg2 hg3
      have HRY := Lib.hid hrY
      have HRX := Lib.hid (ReadsB.below HR2.out HBj.out)
      clear hrY
      generalize flips X ks 3 = Y at *
      have q1 := conv_str HRY.out
      have q2 := conv_str HRX.out
      have c0 : wr.cell? ⟨w.heap.size, 0, none⟩ = some (.int .i64 a0) := (Box3.below HC3.out HBj.out) 0 (by omega)
      obtain ⟨k2, hk2, hk2'⟩ : ∃ k : Nat, wrap64 ((IntKind.u64.wrap a0).tmod (8 * ((m : Int) + 4) - 31)) = (k : Int) ∧ k < 8 * (m + 4) - 31 := by
        have := place_u64 a0 (8 * (m + 4) - 31) (by omega) (by omega)
        rw [show ((8 * (m + 4) - 31 : Nat) : Int) = 8 * ((m : Int) + 4) - 31 by omega] at this
        exact this
      clear HK
      by_cases hp : p = 0#32
      · have hp0 : (u32 p == 0) = true := by rw [hp]; rfl
        rcases hs : ((strB Y).toList == (strB X).toList) with _ | _
        rotate_left
        · go_wp2_with (go_at_call 10; refine Calls.mono (sure_any _ ?_) ?_; exact (HG.out).below (bstep HW2.out HBj.out); rintro e w9 ⟨rfl, hB⟩; have HB9 := Lib.hid (bstep (bstep HW2.out HBj.out) hB); clear hB)
          go_ret
          exact ⟨rfl, HB9.out⟩
        · go_wp2_with (first | (go_at_call 12; refine Calls.mono (good_any _ _ _ Y _ ?_ ?_) ?_; with_reducible exact HRY.out; exact (HG.out).below (bstep HW2.out HBj.out); rintro e w5 ⟨rfl, hB⟩; have HB5 := Lib.hid (bstep HBj.out hB); clear hB) | (go_at_call 10; refine Calls.mono (sure_any _ ?_) ?_; exact (HG.out).below (bstep HW2.out HB5.out); rintro e w9 ⟨rfl, hB⟩; have HB9 := Lib.hid (bstep (bstep HW2.out HB5.out) hB); clear hB))
          go_ret
          exact ⟨rfl, HB9.out⟩
      · have hp0 : (u32 p == 0) = false := by
          rw [show (0 : Int) = u32 0#32 from rfl, u32_beq]
          exact beq_eq_false_iff_ne.mpr hp
        rcases hs : ((strB Y).toList == (strB X).toList) with _ | _
        rotate_left
        · have HB5 := HBj
          go_wp2_with (at_builtin; refine wpList_append_bytes rfl _ _ rfl w2.heap.size (.slice none 0 0) [] rfl ?_ ax (m + 4) c1 X rfl ?_ ?_ ?_ ?_; exact own_nil _ _; exact ReadsB.below HR2.out HB5.out; (simp; omega); exact HB5.out.size; intro v6 w6 ho hg; rw [List.nil_append] at ho; have HB6 := Lib.hid (HB5.out.grown hg HB5.out.size (fun k hk => own_base (own_nil w2 w2.heap.size) k hk)); obtain ⟨g2, c5, rfl, hz1, hz2, hz3, hz4, ho6⟩ := OwnB.opened (n := m + 4) ho HL.out (Nat.succ_pos _); have HO6 := Lib.hid ho6; clear ho hg ho6)
          go_loopw [14] (fun i wz => ∃ j : Nat, j ≤ 32 ∧ i = .int .i64 j ∧ OwnB wz w2.heap.size (.slice (some ⟨g2, 0, none⟩) (m + 4) c5) (burst X k2 p j) ∧ Below w2.heap.size w2 wz) (fun i _ => 32 - (intOf i).toNat)
          case atStart => exact ⟨0, by omega, rfl, HO6.out, HB6.out⟩
          case round =>
            obtain ⟨j, hj, rfl, ho, hB⟩ := hrel
            have HOz := Lib.hid ho
            have HBz := Lib.hid hB
            clear ho hB
            by_cases hlt : j < 32
            · have cg := HOz.out.cell (by rw [burst_length]; exact HL.out) ((k2 + j) / 8) (by omega)
              have fg := HOz.out.free (by rw [burst_length]; exact HL.out) ((k2 + j) / 8)
              have lt8 : (k2 + j) / 8 < m + 4 := by omega
              have HF := Lib.hid (burst_step X k2 p j)
              generalize (burst X k2 p j).getD ((k2 + j) / 8) 0 = V at *
              by_cases hb : p.getLsbD j = true
              · have et : (bits .and .u32 (u32 p / 2 ^ j) 1 == 1) = true := by rw [bit_test]; exact hb
                rw [if_pos hb] at HF
                go_wp2
                go_region
                go_wp2
                go_roundw
                case rel => exact ⟨j + 1, by omega, by go_num, by rw [HF.out]; exact (HOz.out.set (by rw [burst_length]; exact HL.out) ((k2 + j) / 8) _).drewB, (HBz.out.setCell hz1 _).drew⟩
                case measure => simp [intOf]; omega
              · have et : (bits .and .u32 (u32 p / 2 ^ j) 1 == 1) = false := by rw [bit_test]; simpa using hb
                rw [if_neg hb] at HF
                go_wp2
                go_roundw
                case rel => exact ⟨j + 1, by omega, by go_num, by rw [HF.out]; exact HOz.out, HBz.out⟩
                case measure => simp [intOf]; omega
            · obtain rfl : j = 32 := by omega
              have hbad2 : goodB (burst X k2 p 32) = false := by
                rw [← HX.out]
                exact burst_bad HA.out.byte (by rw [HA.out.len]; omega) k2 (by rw [HA.out.len]; omega) p hp
              have HRZ := Lib.hid (HOz.out.at_ (burst_bytes X k2 p 32 HY.out) (by rw [burst_length]; exact HL.out) hn hz2 hz3)
              generalize burst X k2 p 32 = Z at *
              go_wp2_with (first | (go_at_call 12; refine Calls.mono (good_any _ _ _ Z _ ?_ ?_) ?_; with_reducible exact HRZ.out; exact (HG.out).below (bstep HW2.out HBz.out); rintro e w7 ⟨rfl, hB⟩; have HB7 := Lib.hid (bstep HBz.out hB); clear hB) | (go_at_call 10; refine Calls.mono (sure_any _ ?_) ?_; exact (HG.out).below (bstep HW2.out HB7.out); rintro e w9 ⟨rfl, hB⟩; have HB9 := Lib.hid (bstep (bstep HW2.out HB7.out) hB); clear hB))
              go_ret
              exact ⟨rfl, HB9.out⟩
        · go_wp2_with (first | (go_at_call 12; refine Calls.mono (good_any _ _ _ Y _ ?_ ?_) ?_; with_reducible exact HRY.out; exact (HG.out).below (bstep HW2.out HBj.out); rintro e w5 ⟨rfl, hB⟩; have HB5 := Lib.hid (bstep HBj.out hB); have c05 : w5.cell? ⟨w.heap.size, 0, none⟩ = some (.int .i64 a0) := (Box3.below HC3.out HB5.out).first; clear hB) | (at_builtin; refine wpList_append_bytes rfl _ _ rfl w2.heap.size (.slice none 0 0) [] rfl ?_ ax (m + 4) c1 X rfl ?_ ?_ ?_ ?_; exact own_nil _ _; exact ReadsB.below HR2.out HB5.out; (simp; omega); exact HB5.out.size; intro v6 w6 ho hg; rw [List.nil_append] at ho; have HB6 := Lib.hid (HB5.out.grown hg HB5.out.size (fun k hk => own_base (own_nil w2 w2.heap.size) k hk)); obtain ⟨g2, c5, rfl, hz1, hz2, hz3, hz4, ho6⟩ := OwnB.opened (n := m + 4) ho HL.out (Nat.succ_pos _); have HO6 := Lib.hid ho6; clear ho hg ho6))
          go_loopw [14] (fun i wz => ∃ j : Nat, j ≤ 32 ∧ i = .int .i64 j ∧ OwnB wz w2.heap.size (.slice (some ⟨g2, 0, none⟩) (m + 4) c5) (burst X k2 p j) ∧ Below w2.heap.size w2 wz) (fun i _ => 32 - (intOf i).toNat)
          case atStart => exact ⟨0, by omega, rfl, HO6.out, HB6.out⟩
          case round =>
            obtain ⟨j, hj, rfl, ho, hB⟩ := hrel
            have HOz := Lib.hid ho
            have HBz := Lib.hid hB
            clear ho hB
            by_cases hlt : j < 32
            · have cg := HOz.out.cell (by rw [burst_length]; exact HL.out) ((k2 + j) / 8) (by omega)
              have fg := HOz.out.free (by rw [burst_length]; exact HL.out) ((k2 + j) / 8)
              have lt8 : (k2 + j) / 8 < m + 4 := by omega
              have HF := Lib.hid (burst_step X k2 p j)
              generalize (burst X k2 p j).getD ((k2 + j) / 8) 0 = V at *
              by_cases hb : p.getLsbD j = true
              · have et : (bits .and .u32 (u32 p / 2 ^ j) 1 == 1) = true := by rw [bit_test]; exact hb
                rw [if_pos hb] at HF
                go_wp2
                go_region
                go_wp2
                go_roundw
                case rel => exact ⟨j + 1, by omega, by go_num, by rw [HF.out]; exact (HOz.out.set (by rw [burst_length]; exact HL.out) ((k2 + j) / 8) _).drewB, (HBz.out.setCell hz1 _).drew⟩
                case measure => simp [intOf]; omega
              · have et : (bits .and .u32 (u32 p / 2 ^ j) 1 == 1) = false := by rw [bit_test]; simpa using hb
                rw [if_neg hb] at HF
                go_wp2
                go_roundw
                case rel => exact ⟨j + 1, by omega, by go_num, by rw [HF.out]; exact HOz.out, HBz.out⟩
                case measure => simp [intOf]; omega
            · obtain rfl : j = 32 := by omega
              have hbad2 : goodB (burst X k2 p 32) = false := by
                rw [← HX.out]
                exact burst_bad HA.out.byte (by rw [HA.out.len]; omega) k2 (by rw [HA.out.len]; omega) p hp
              have HRZ := Lib.hid (HOz.out.at_ (burst_bytes X k2 p 32 HY.out) (by rw [burst_length]; exact HL.out) hn hz2 hz3)
              generalize burst X k2 p 32 = Z at *
              go_wp2_with (first | (go_at_call 12; refine Calls.mono (good_any _ _ _ Z _ ?_ ?_) ?_; with_reducible exact HRZ.out; exact (HG.out).below (bstep HW2.out HBz.out); rintro e w7 ⟨rfl, hB⟩; have HB7 := Lib.hid (bstep HBz.out hB); clear hB) | (go_at_call 10; refine Calls.mono (sure_any _ ?_) ?_; exact (HG.out).below (bstep HW2.out HB7.out); rintro e w9 ⟨rfl, hB⟩; have HB9 := Lib.hid (bstep (bstep HW2.out HB7.out) hB); clear hB))
              go_ret
              exact ⟨rfl, HB9.out⟩
set_option maxHeartbeats 1000000 in
theorem rot_any (a : Option Addr) (n cap : Nat) (a0 a1 a2 : Int) (p : BitVec 32) (xs : List Int) (w : World) (ha : ReadsB w a n cap xs) (hg : Fours w) :
    Calls Tryd.prog 3 #[.slice a n cap, .agg #[.int .i64 a0, .int .i64 a1, .int .i64 a2], .int .u32 (u32 p)] w fun e w' => e = .returned (.bool true) ∧ Below w.heap.size w w' := by
  by_cases h1 : n < 4
  · have Hbx := Lib.hid (show Below w.heap.size w (w.alloc (.cells #[.int .i64 a0, .int .i64 a1, .int .i64 a2] 23)) from (by repeat (first | (with_reducible exact Below.refl _ _) | with_reducible apply balloc | with_reducible apply Below.drew | with_reducible apply below_drewN)))
    have HG := Lib.hid hg
    clear ha hg
    go_enter Tryd.func3, Tryd.ntmps3
    go_wp2_with (go_at_call 10; refine Calls.mono (sure_any _ ?_) ?_; exact (HG.out).below Hbx.out; rintro e w9 ⟨rfl, hB⟩; have HB9 := Lib.hid (bstep Hbx.out hB); clear hB)
    go_ret
    exact ⟨rfl, HB9.out⟩
  by_cases h2 : 4096 < n
  · have hn := ha.bound
    have Hbx := Lib.hid (show Below w.heap.size w (w.alloc (.cells #[.int .i64 a0, .int .i64 a1, .int .i64 a2] 23)) from (by repeat (first | (with_reducible exact Below.refl _ _) | with_reducible apply balloc | with_reducible apply Below.drew | with_reducible apply below_drewN)))
    have HG := Lib.hid hg
    clear ha hg
    go_enter Tryd.func3, Tryd.ntmps3
    go_wp2_with (go_at_call 10; refine Calls.mono (sure_any _ ?_) ?_; exact (HG.out).below Hbx.out; rintro e w9 ⟨rfl, hB⟩; have HB9 := Lib.hid (bstep Hbx.out hB); clear hB)
    go_ret
    exact ⟨rfl, HB9.out⟩
  obtain ⟨m, rfl⟩ : ∃ m, n = m + 4 := ⟨n - 4, by omega⟩
  exact rot_long a m cap a0 a1 a2 p xs w ha hg (by omega)
end Go.Proofs.YtmgnabfmmmagkaaDoor
