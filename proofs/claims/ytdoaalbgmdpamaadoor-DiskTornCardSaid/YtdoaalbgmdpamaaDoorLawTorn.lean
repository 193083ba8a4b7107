/-
  The walk of the law DiskTorn, at this seat's numbers.
-/
import Derived.Test.YtdoaalbgmdpamaaDoorLaw2A
import Derived.Test.YtdoaalbgmdpamaaDoorNumB
set_option linter.unusedVariables false
set_option linter.unusedSimpArgs false
namespace Go.Proofs.YtdoaalbgmdpamaaDoor
open Go Go.RowKit

def sX : ByteArray := ⟨#[120]⟩
def tornD (A X Bb : List Int) : DiskD := ((((disk0 1).put 0 A).flush).put 0 X).put 0 Bb
theorem tornD_pend (A X Bb : List Int) : (tornD A X Bb).pend = [0] := rfl
theorem torn_now (A X Bb : List Int) (k : Nat) : ((tornD A X Bb).crash [] 0 (k : Int)).now = [Bb.take k ++ A.drop k] := rfl
theorem torn_bad (k : Int) (j : Nat) : mayB j [0] 0 k = false := decide_eq_false (fun h => by
  rcases h.2.2.1 with h | h
  · exact absurd h (by decide)
  · exact h.2 (by simp))
theorem torn_good (k : Nat) (hk : k ≤ 512) : mayB 1 [] 0 (k : Int) = true := decide_eq_true ⟨fun x hx => (by cases hx), List.nodup_nil, .inr ⟨⟨by decide, by decide⟩, (by intro h; cases h)⟩, by omega, by omega⟩
theorem torn_eq (a b : ByteArray) (k : Nat) (hk : k ≤ 512) (ha : a.size ≤ 512) (hb : b.size ≤ 512) : ((strB ((secL b).take k ++ (secL a).drop k)).toList == ((secS b).extract 0 k ++ (secS a).extract k 512).toList) = true := by
  unfold secS
  rw [strB_extract, strB_extract, strB_append]
  apply strB_toList_eq
  rw [List.drop_zero, List.take_of_length_le (l := secL a) (i := 512) (by rw [secL_len a ha]; exact Nat.le_refl _)]
set_option maxRecDepth 100000 in
set_option maxHeartbeats 16000000 in
theorem lawTorn_any (a b : ByteArray) (part : Int) (w : World) (hh : Handle w) :
    Calls Tryd.prog 3 #[.string a, .string b, .int .i64 part] w fun e w' => e = .returned (.bool true) ∧ Below w.heap.size w w' := by
  have HH := Lib.hid hh
  clear hh
  by_cases ha : 512 < a.size
  · go_enter Tryd.func3, Tryd.ntmps3
    go_wp2_with (go_at_call 7; refine Calls.mono (sure_any _) ?_; rintro e w9 ⟨rfl, hB⟩)
    go_ret
    exact ⟨rfl, hB⟩
  by_cases hb : 512 < b.size
  · go_enter Tryd.func3, Tryd.ntmps3
    go_wp2_with (go_at_call 7; refine Calls.mono (sure_any _) ?_; rintro e w9 ⟨rfl, hB⟩)
    go_ret
    exact ⟨rfl, hB⟩
  have ha : a.size ≤ 512 := by omega
  have hb : b.size ≤ 512 := by omega
  obtain ⟨k, ek, hk'⟩ := place_num part 513 (by decide) (by decide)
  have hk : k ≤ 512 := by omega
  have kA := fun W : World => conv_bytes_at (secS a) 512 (secS_size a ha) W
  have kX := fun W : World => conv_bytes_at (secS sX) 512 (secS_size sX (by decide)) W
  have kB := fun W : World => conv_bytes_at (secS b) 512 (secS_size b hb) W
  go_enter Tryd.func3, Tryd.ntmps3
  go_wp2_with fail
  refine Calls.mono (new_ok 1 _ (by decide) (by decide)) ?_
  rintro e w1 ⟨gd, gn, gs, rfl, hd, hB⟩
  have H1 := Lib.hid hd
  have B1 := Lib.hid hB
  clear hd hB
  go_wp2_with fail
  refine Calls.mono (sector_any a _ (ha)) ?_
  rintro e w2 ⟨rfl, hB⟩
  have H2 := Lib.hid (H1.out.below hB)
  have B2 := Lib.hid (bstep B1.out hB)
  clear H1 B1
  clear hB
  have hB := bytesW_below w2 (secS a)
  have R3 := Lib.hid (bytesW_reads w2 (secS a) 512 (secS_size a (ha)) (by decide))
  rw [secS_bytes] at R3
  have A3 := Lib.hid (bytesW_apart w2 (secS a) (DS gd gn gs (.slice none 0 0)) (fun k hk => (H2.out.old k hk).2))
  have H3 := Lib.hid (H2.out.below hB)
  have B3 := Lib.hid (bstep B2.out hB)
  clear H2 B2
  clear hB
  go_wp2_with fail
  refine Calls.mono (write_ok 0 (some ⟨w2.heap.size, 0, none⟩) (capB w2 (secS a)) (secL a) _ H3.out (by decide) R3.out A3.out (by show (-1 : Int) ≠ 0; decide)) ?_
  rintro e w4 ⟨pv4, rfl, hd, hk, hf⟩
  clear R3 A3
  have H4 := Lib.hid hd
  have B4 := Lib.hid (below_kept B3.out hk (fun k _ hk => (H3.out.old k hk).1))
  clear hd hk H3 B3
  clear hf
  go_wp2_with fail
  refine Calls.mono (flush_ok _ H4.out) ?_
  rintro e w5 ⟨rfl, hd, hk⟩
  have H5 := Lib.hid hd
  have B5 := Lib.hid (below_kept B4.out hk (fun k _ hk => by rcases hk with rfl | rfl; exact H4.out.b1; exact H4.out.b3))
  clear hd hk H4 B4
  go_wp2_with fail
  refine Calls.mono (sector_any sX _ (by decide)) ?_
  rintro e w6 ⟨rfl, hB⟩
  have H6 := Lib.hid (H5.out.below hB)
  have B6 := Lib.hid (bstep B5.out hB)
  clear H5 B5
  clear hB
  have hB := bytesW_below w6 (secS sX)
  have R7 := Lib.hid (bytesW_reads w6 (secS sX) 512 (secS_size sX (by decide)) (by decide))
  rw [secS_bytes] at R7
  have A7 := Lib.hid (bytesW_apart w6 (secS sX) (DS gd gn gs (.slice none 0 0)) (fun k hk => (H6.out.old k hk).2))
  have H7 := Lib.hid (H6.out.below hB)
  have B7 := Lib.hid (bstep B6.out hB)
  clear H6 B6
  clear hB
  go_wp2_with fail
  refine Calls.mono (write_ok 0 (some ⟨w6.heap.size, 0, none⟩) (capB w6 (secS sX)) (secL sX) _ H7.out (by decide) R7.out A7.out (by show (-1 : Int) ≠ 0; decide)) ?_
  rintro e w8 ⟨pv8, rfl, hd, hk, hf⟩
  clear R7 A7
  have H8 := Lib.hid hd
  have B8 := Lib.hid (below_kept B7.out hk (fun k _ hk => (H7.out.old k hk).1))
  clear hd hk H7 B7
  clear hf
  go_wp2_with fail
  refine Calls.mono (sector_any b _ (hb)) ?_
  rintro e w9 ⟨rfl, hB⟩
  have H9 := Lib.hid (H8.out.below hB)
  have B9 := Lib.hid (bstep B8.out hB)
  clear H8 B8
  clear hB
  have hB := bytesW_below w9 (secS b)
  have R10 := Lib.hid (bytesW_reads w9 (secS b) 512 (secS_size b (hb)) (by decide))
  rw [secS_bytes] at R10
  have A10 := Lib.hid (bytesW_apart w9 (secS b) (DS gd gn gs pv8) (fun k hk => (H9.out.old k hk).2))
  have H10 := Lib.hid (H9.out.below hB)
  have B10 := Lib.hid (bstep B9.out hB)
  clear H9 B9
  clear hB
  go_wp2_with fail
  refine Calls.mono (write_ok 0 (some ⟨w9.heap.size, 0, none⟩) (capB w9 (secS b)) (secL b) _ H10.out (by decide) R10.out A10.out (by show (-1 : Int) ≠ 0; decide)) ?_
  rintro e w11 ⟨pv11, rfl, hd, hk, hf⟩
  clear R10 A10
  have H11 := Lib.hid hd
  have B11 := Lib.hid (below_kept B10.out hk (fun k _ hk => (H10.out.old k hk).1))
  clear hd hk H10 B10
  clear hf
  go_wp2_with fail
  refine Calls.mono (pending_ok _ H11.out) ?_
  rintro e w20 ⟨v, rfl, ho, hB⟩
  obtain ⟨pa, pc, hv, hpr, _⟩ := Own.reads ho
  have hv : v = .slice pa 1 pc := hv
  subst hv
  have HP : Hid (Reads w20 pa 1 pc (iV [0])) := Lib.hid hpr
  have H20 := Lib.hid (H11.out.below hB)
  have B20 := Lib.hid (bstep B11.out hB)
  clear ho hpr hB H11 B11
  go_wp2_with fail
  refine Calls.mono (ints_any _ _ _ _ _ _ [0] [0] _ (HP.out.below (by repeat (first | exact Below.refl _ _ | apply balloc | apply Below.drew | apply below_drewN))) (Reads.one' _ 0 _ _ (by simp))) ?_
  rintro e w21 ⟨rfl, m, rfl⟩
  rw [show eqI [0] [0] = true from rfl]
  go_wp2_with fail
  refine Calls.mono (crash_bad _ 1 1 [0] 0 (k : Int) _ (H20.out.below (by repeat (first | exact Below.refl _ _ | apply balloc | apply Below.drew | apply below_drewN))) (Reads.one' _ 0 _ _ (by simp)) (torn_bad _ _)) ?_
  rintro e w22 ⟨rfl, hB⟩
  have hB2 := bstep (show Below w20.heap.size w20 _ from (by repeat (first | exact Below.refl _ _ | apply balloc | apply Below.drew | apply below_drewN))) hB
  have H22 := Lib.hid (H20.out.below hB2)
  have B22 := Lib.hid (bstep B20.out hB2)
  clear hB hB2 H20 B20 HP
  go_wp2_with fail
  refine Calls.mono (num_err 1 _ (HH.out.below B22.out)) ?_
  rintro e w23 ⟨rfl, hB⟩
  have H23 := Lib.hid (H22.out.below hB)
  have B23 := Lib.hid (bstep B22.out hB)
  clear hB H22 B22
  go_wp2_with fail
  refine Calls.mono (crash_ok none 0 0 [] 0 (k : Int) _ H23.out (nilReads _) (fun ad e => (by cases e)) (torn_good k hk)) ?_
  rintro e w24 ⟨rfl, hd, hk2⟩
  have H24 := Lib.hid hd
  have B24 := Lib.hid (below_kept B23.out hk2 (fun k _ hk => by rcases hk with rfl | rfl | rfl; exact H23.out.b1; exact H23.out.b2; exact H23.out.b3))
  clear hd hk2 H23 B23
  go_wp2_with fail
  refine Calls.mono (read_ok 0 _ H24.out (by decide)) ?_
  rintro e w25 ⟨v, rfl, ho, hB⟩
  obtain ⟨a25, c25, rfl, hr⟩ := ho.reads' (H24.out.snow.get (by decide)).2 (H24.out.snow.get (by decide)).1 (by decide)
  have B25 := Lib.hid (bstep B24.out hB)
  have RC : Hid (ReadsB w25 a25 512 c25 ((secL b).take k ++ (secL a).drop k)) := Lib.hid hr
  clear ho hr hB H24 B24
  have SH : Hid (∀ W' : World, Below w25.heap.size w25 W' → (convert 29 9 (.slice a25 512 c25)).run Tryd.prog W' = .ok (.string (strB ((secL b).take k ++ (secL a).drop k))) W') := Lib.hid (fun W' hb => conv_str (ReadsB.below RC.out hb))
  have HB : Hid (Below w25.heap.size w25 w25.drew) := Lib.hid ((Below.refl _ _).drew)
  have sa := secS_size a ha
  have sb := secS_size b hb
  have k0 : (0 : Int) ≤ (k : Int) := by omega
  have k1 : (k : Int) ≤ (512 : Int) := by omega
  have EQ : ((strB ((secL b).take k ++ (secL a).drop k)).toList == ((secS b).extract 0 k ++ (secS a).extract k 512).toList) = true := torn_eq a b k hk ha hb
  go_wp2_with fail
  go_region_held3 (fun W' => (convert 29 9 (.slice a25 512 c25)).run Tryd.prog W' = .ok (.string (strB ((secL b).take k ++ (secL a).drop k))) W') (first | assumption | exact SH.out _ HB.out) (first | (go_at_call 10; with_reducible refine Calls.mono (sector_any b _ hb) ?_; rintro e w91 ⟨rfl, hB⟩; have n0 := Lib.hid (bstep HB.out hB); clear HB hB; have HB := n0; clear n0) | (go_at_call 10; with_reducible refine Calls.mono (sector_any a _ ha) ?_; rintro e w92 ⟨rfl, hB⟩; have n0 := Lib.hid (bstep HB.out hB); clear HB hB; have HB := n0; clear n0) | (go_at_call 7; with_reducible refine Calls.mono (sure_any _) ?_; rintro e w93 ⟨rfl, hB⟩; have n0 := Lib.hid (bstep HB.out hB); clear HB hB; have HB := n0; clear n0))
  all_goals
    go_wp2
    go_ret
    exact ⟨rfl, bstep B25.out HB.out⟩
end Go.Proofs.YtdoaalbgmdpamaaDoor
