/-
  The walk of the law DiskLimits, at this seat's numbers.
-/
import Derived.Test.YtdoaalbgmdpamaaDoorLaw2A
import Derived.Test.YtdoaalbgmdpamaaDoorNumB
set_option linter.unusedVariables false
set_option linter.unusedSimpArgs false
namespace Go.Proofs.YtdoaalbgmdpamaaDoor
open Go Go.RowKit

def sX : ByteArray := ⟨#[120]⟩
def sY : ByteArray := ⟨#[121]⟩
theorem may_nil (m : Nat) : mayB m [] (-1) 0 = true := decide_eq_true ⟨fun x hx => (by cases hx), List.nodup_nil, .inl rfl, by decide, by decide⟩
theorem range_put (m : Nat) (D : DiskD) (b : List Int) (h : D.pend = List.range m) : (D.put m b).pend = List.range (m + 1) := by
  unfold DiskD.put
  rw [h]
  show (if m ∈ List.range m then List.range m else List.range m ++ [m]) = _
  rw [if_neg (by simp), List.range_succ]
set_option maxRecDepth 100000 in
set_option maxHeartbeats 16000000 in
theorem lawLimits_any (n more : Int) (w : World) (hh : Handle w) :
    Calls Tryd.prog 4 #[.int .i64 n, .int .i64 more] w fun e w' => e = .returned (.bool true) ∧ Below w.heap.size w w' := by
  have HH := Lib.hid hh
  clear hh
  obtain ⟨k, ek, hk'⟩ := place_num n 20 (by decide) (by decide)
  obtain ⟨j, ej, hj'⟩ := place_num more 5 (by decide) (by decide)
  have hk : k < 20 := by omega
  have hj : j < 5 := by omega
  have kX := fun W : World => conv_bytes_at (secS sX) 512 (secS_size sX (by decide)) W
  have kY := fun W : World => conv_bytes_at (secS sY) 512 (secS_size sY (by decide)) W
  go_enter Tryd.func4, Tryd.ntmps4
  go_wp2_with fail
  refine Calls.mono (new_ok 30 _ (by decide) (by decide)) ?_
  rintro e w1 ⟨gd, gn, gs, rfl, hd, hB⟩
  have H1 := Lib.hid hd
  have B1 := Lib.hid hB
  clear hd hB
  go_wp2_with fail
  refine Calls.mono (limit_any (k : Int) _ H1.out (by omega)) ?_
  rintro e w2 ⟨rfl, hd, hk⟩
  have H2 := Lib.hid hd
  have B2 := Lib.hid (below_kept B1.out hk (fun k _ hk => by subst hk; exact H1.out.b1))
  clear hd hk H1 B1
  go_wp2_with fail
  go_loopw [8] (fun iv wr => ∃ (i : Nat) (pv : Value) (D : DiskD), i ≤ k + 1 + j ∧ iv = .int .i64 i ∧ DiskAt wr gd gn gs pv w.heap.size 30 D ∧ Below w.heap.size w wr ∧ D.writes = ((min i k : Nat) : Int) ∧ D.pend = List.range (min i k) ∧ D.left = (k : Int) - ((min i k : Nat) : Int)) (fun iv _ => k + 1 + j - (intOf iv).toNat)
  case atStart => exact ⟨0, _, _, Nat.zero_le _, rfl, H2.out, B2.out, by simp [disk0], by simp [disk0], by simp; omega⟩
  case round =>
    obtain ⟨i, pv, D, hi, rfl, hd, hb, hw, hp, hl⟩ := hrel
    have HD := Lib.hid hd
    have HB := Lib.hid hb
    have HW := Lib.hid hw
    have HP := Lib.hid hp
    have HL := Lib.hid hl
    clear hd hb hw hp hl
    by_cases hlt : i < k
    · have hmod : (i : Int) % 30 = (i : Int) := by omega
      have e1 : (i : Int) < (k : Int) := by omega
      have HMI : Hid (min i k = i) := Lib.hid (by omega)
      have HMJ : Hid (min (i + 1) k = i + 1) := Lib.hid (by omega)
      rw [HMI.out] at HW HP HL
      go_wp2_with fail
      refine Calls.mono (sector_any sX _ (by decide)) ?_
      rintro e w51 ⟨rfl, hB⟩
      have H51 := Lib.hid (HD.out.below hB)
      have B51 := Lib.hid (bstep HB.out hB)
      clear HD HB
      clear hB
      have hB := bytesW_below w51 (secS sX)
      have R52 := Lib.hid (bytesW_reads w51 (secS sX) 512 (secS_size sX (by decide)) (by decide))
      rw [secS_bytes] at R52
      have A52 := Lib.hid (bytesW_apart w51 (secS sX) (DS gd gn gs pv) (fun k hk => (H51.out.old k hk).2))
      have H52 := Lib.hid (H51.out.below hB)
      have B52 := Lib.hid (bstep B51.out hB)
      clear H51 B51
      clear hB
      go_wp2_with fail
      refine Calls.mono (write_ok i (some ⟨w51.heap.size, 0, none⟩) (capB w51 (secS sX)) (secL sX) _ H52.out (by omega) R52.out A52.out (by rw [HL.out]; omega)) ?_
      rintro e w53 ⟨pv53, rfl, hd, hk, hf⟩
      clear R52 A52
      have H53 := Lib.hid hd
      have B53 := Lib.hid (below_kept B52.out hk (fun k _ hk => (H52.out.old k hk).1))
      clear hd hk H52 B52
      clear hf
      go_wp2
      go_roundw
      case rel =>
        refine ⟨i + 1, _, _, by omega, by go_num, H53.out, B53.out, ?_, ?_, ?_⟩
        · rw [HMJ.out]; show wrap64 (D.writes + 1) = _; rw [HW.out]; unfold wrap64; omega
        · rw [HMJ.out]; exact range_put i D _ HP.out
        · rw [HMJ.out]; show (if 0 < D.left then D.left - 1 else D.left) = _; rw [HL.out, if_pos (by omega)]; omega
      case measure => simp [intOf]; omega
    by_cases hlt2 : i < k + 1 + j
    · have hmod : (i : Int) % 30 = (i : Int) := by omega
      have e1 : ¬ (i : Int) < (k : Int) := by omega
      have HMI : Hid (min i k = k) := Lib.hid (by omega)
      have HMJ : Hid (min (i + 1) k = k) := Lib.hid (by omega)
      rw [HMI.out] at HW HP HL
      go_wp2_with fail
      refine Calls.mono (sector_any sX _ (by decide)) ?_
      rintro e w71 ⟨rfl, hB⟩
      have H71 := Lib.hid (HD.out.below hB)
      have B71 := Lib.hid (bstep HB.out hB)
      clear HD HB
      clear hB
      have hB := bytesW_below w71 (secS sX)
      have R72 := Lib.hid (bytesW_reads w71 (secS sX) 512 (secS_size sX (by decide)) (by decide))
      rw [secS_bytes] at R72
      have A72 := Lib.hid (bytesW_apart w71 (secS sX) (DS gd gn gs pv) (fun k hk => (H71.out.old k hk).2))
      have H72 := Lib.hid (H71.out.below hB)
      have B72 := Lib.hid (bstep B71.out hB)
      clear H71 B71
      clear hB
      go_wp2_with fail
      refine Calls.mono (write_full i (some ⟨w71.heap.size, 0, none⟩) (capB w71 (secS sX)) _ H72.out (by omega) (by rw [HL.out]; omega)) ?_
      rintro e w73 ⟨rfl, rfl⟩
      go_wp2_with fail
      refine Calls.mono (num_err 5 _ (HH.out.below B72.out)) ?_
      rintro e w74 ⟨rfl, hB⟩
      have H74 := Lib.hid (H72.out.below hB)
      have B74 := Lib.hid (bstep B72.out hB)
      clear H72 B72
      clear hB
      go_wp2
      go_roundw
      case rel => exact ⟨i + 1, _, D, by omega, by go_num, H74.out, B74.out, by rw [HMJ.out]; exact HW.out, by rw [HMJ.out]; exact HP.out, by rw [HMJ.out]; exact HL.out⟩
      case measure => simp [intOf]; omega
    have HMI : Hid (min i k = k) := Lib.hid (by omega)
    rw [HMI.out] at HW HP HL
    have HPL : Hid ((intsV D.pend).length = k) := Lib.hid (by rw [HP.out]; simp [intsV])
    go_wp2_with fail
    refine Calls.mono (writes_any _ HD.out) ?_
    rintro e w91 ⟨rfl, rfl⟩
    rw [HW.out]
    go_wp2_with fail
    refine Calls.mono (pending_ok _ HD.out) ?_
    rintro e w92 ⟨v, rfl, ho, hB⟩
    obtain ⟨pa92, pc92, hv, hpr, hap⟩ := Own.reads ho
    subst hv
    have HP92 := Lib.hid hpr
    have H92 := Lib.hid (HD.out.below hB)
    have B92 := Lib.hid (bstep HB.out hB)
    clear HD HB
    clear ho hpr hB hap
    rw [HPL.out]
    go_wp2_with fail
    refine Calls.mono (crash_ok none 0 0 [] (-1) 0 _ H92.out (nilReads _) (fun ad e => (by cases e)) (may_nil _)) ?_
    rintro e w93 ⟨rfl, hd, hk⟩
    have H93 := Lib.hid hd
    have B93 := Lib.hid (below_kept B92.out hk (fun k _ hk => by rcases hk with rfl | rfl | rfl; exact H92.out.b1; exact H92.out.b2; exact H92.out.b3))
    clear hd hk H92 B92
    go_wp2_with fail
    refine Calls.mono (sector_any sY _ (by decide)) ?_
    rintro e w94 ⟨rfl, hB⟩
    have H94 := Lib.hid (H93.out.below hB)
    have B94 := Lib.hid (bstep B93.out hB)
    clear H93 B93
    clear hB
    have hB := bytesW_below w94 (secS sY)
    have R95 := Lib.hid (bytesW_reads w94 (secS sY) 512 (secS_size sY (by decide)) (by decide))
    rw [secS_bytes] at R95
    have A95 := Lib.hid (bytesW_apart w94 (secS sY) (DS gd gn gs (.slice none 0 0)) (fun k hk => (H94.out.old k hk).2))
    have H95 := Lib.hid (H94.out.below hB)
    have B95 := Lib.hid (bstep B94.out hB)
    clear H94 B94
    clear hB
    go_wp2_with fail
    refine Calls.mono (write_ok 0 (some ⟨w94.heap.size, 0, none⟩) (capB w94 (secS sY)) (secL sY) _ H95.out (by decide) R95.out A95.out (by show (-1 : Int) ≠ 0; decide)) ?_
    rintro e w96 ⟨pv96, rfl, hd, hk, hf⟩
    clear R95 A95
    have H96 := Lib.hid hd
    have B96 := Lib.hid (below_kept B95.out hk (fun k _ hk => (H95.out.old k hk).1))
    clear hd hk H95 B95
    clear hf
    go_wp2_with fail
    refine Calls.mono (limit_any (-5) _ H96.out (by decide)) ?_
    rintro e w97 ⟨rfl, hd, hk⟩
    have H97 := Lib.hid hd
    have B97 := Lib.hid (below_kept B96.out hk (fun k _ hk => by subst hk; exact H96.out.b1))
    clear hd hk H96 B96
    go_wp2_with fail
    refine Calls.mono (sector_any sY _ (by decide)) ?_
    rintro e w98 ⟨rfl, hB⟩
    have H98 := Lib.hid (H97.out.below hB)
    have B98 := Lib.hid (bstep B97.out hB)
    clear H97 B97
    clear hB
    have hB := bytesW_below w98 (secS sY)
    have R99 := Lib.hid (bytesW_reads w98 (secS sY) 512 (secS_size sY (by decide)) (by decide))
    rw [secS_bytes] at R99
    have A99 := Lib.hid (bytesW_apart w98 (secS sY) (DS gd gn gs pv96) (fun k hk => (H98.out.old k hk).2))
    have H99 := Lib.hid (H98.out.below hB)
    have B99 := Lib.hid (bstep B98.out hB)
    clear H98 B98
    clear hB
    go_wp2_with fail
    refine Calls.mono (write_ok 1 (some ⟨w98.heap.size, 0, none⟩) (capB w98 (secS sY)) (secL sY) _ H99.out (by decide) R99.out A99.out (by show (-1 : Int) ≠ 0; decide)) ?_
    rintro e w100 ⟨pv100, rfl, hd, hk, hf⟩
    clear R99 A99
    have H100 := Lib.hid hd
    have B100 := Lib.hid (below_kept B99.out hk (fun k _ hk => (H99.out.old k hk).1))
    clear hd hk H99 B99
    clear hf
    go_wp2_with fail
    refine Calls.mono (sure_any _) ?_
    rintro e w101 ⟨rfl, hB⟩
    have H101 := Lib.hid (H100.out.below hB)
    have B101 := Lib.hid (bstep B100.out hB)
    clear H100 B100
    clear hB
    go_wp2
    go_ret
    exact ⟨rfl, B101.out⟩
end Go.Proofs.YtdoaalbgmdpamaaDoor
