/-
  The walk of the law DiskNew, at this seat's numbers.
-/
import Derived.Test.YtdoaalbgmdpamaaDoorLaw2A
import Derived.Test.YtdoaalbgmdpamaaDoorNumB
set_option linter.unusedVariables false
set_option linter.unusedSimpArgs false
namespace Go.Proofs.YtdoaalbgmdpamaaDoor
open Go Go.RowKit

theorem zeroSecs_get (k j : Nat) (hj : j < k) : (zeroSecs k).getD j [] = secL sE := by
  unfold zeroSecs
  rw [List.getD_eq_getElem?_getD, List.getElem?_replicate, if_pos hj, ← zeros_secE]; rfl
set_option maxRecDepth 100000 in
set_option maxHeartbeats 16000000 in
/-- behind the looks at a nil disk -/
theorem lawNew_from (n i : Int) (w : World) (hh : Handle w) :
    Calls Tryd.prog 6 #[.int .i64 n, .int .i64 i] w fun e w' => e = .returned (.bool true) ∧ Below w.heap.size w w' := by
  have HH := Lib.hid hh
  have B0 := Lib.hid (Below.refl w.heap.size w)
  clear hh
  have hmk2 : ∀ W : World, (Instr.makeSlice 29 (.int .i64 512) (.int .i64 512)).run Tryd.prog W = .ok (.slice (some ⟨W.heap.size, 0, none⟩) 512 512) (W.alloc (.cells (zerosV 512) 5)) := fun W => make_bytes 512 (by decide) W
  have hmk1 : ∀ W : World, (Instr.makeSlice 29 (.int .i64 511) (.int .i64 511)).run Tryd.prog W = .ok (.slice (some ⟨W.heap.size, 0, none⟩) 511 511) (W.alloc (.cells (zerosV 511) 5)) := fun W => make_bytes 511 (by decide) W
  go_enter Tryd.func6, Tryd.ntmps6
  go_wp2_with fail
  refine Calls.mono (read_nil i _) ?_
  rintro e w1 ⟨rfl, rfl⟩
  go_wp2_with fail
  refine Calls.mono (num_err 1 _ (HH.out.below B0.out)) ?_
  rintro e w2 ⟨rfl, hB⟩
  have B2 := Lib.hid (bstep B0.out hB)
  clear  B0
  clear hB
  go_wp2_with fail
  refine Calls.mono (write_nil i _ _ _ _) ?_
  rintro e w3 ⟨rfl, rfl⟩
  go_wp2_with fail
  refine Calls.mono (num_err 1 _ (HH.out.below B2.out)) ?_
  rintro e w4 ⟨rfl, hB⟩
  have B4 := Lib.hid (bstep B2.out hB)
  clear  B2
  clear hB
  go_wp2_with fail
  refine Calls.mono (flush_nil _) ?_
  rintro e w5 ⟨rfl, rfl⟩
  go_wp2_with fail
  refine Calls.mono (num_err 1 _ (HH.out.below B4.out)) ?_
  rintro e w6 ⟨rfl, hB⟩
  have B6 := Lib.hid (bstep B4.out hB)
  clear  B4
  clear hB
  go_wp2_with fail
  refine Calls.mono (crash_nil _ _ _ _ _ _) ?_
  rintro e w7 ⟨rfl, rfl⟩
  go_wp2_with fail
  refine Calls.mono (num_err 1 _ (HH.out.below B6.out)) ?_
  rintro e w8 ⟨rfl, hB⟩
  have B8 := Lib.hid (bstep B6.out hB)
  clear  B6
  clear hB
  go_wp2_with fail
  refine Calls.mono (rot_nil 0 0 1 _) ?_
  rintro e w9 ⟨rfl, rfl⟩
  go_wp2_with fail
  refine Calls.mono (num_err 1 _ (HH.out.below B8.out)) ?_
  rintro e w10 ⟨rfl, hB⟩
  have B10 := Lib.hid (bstep B8.out hB)
  clear  B8
  clear hB
  go_wp2_with fail
  refine Calls.mono (limit_nil n _) ?_
  rintro e w11 ⟨rfl, rfl⟩
  go_wp2_with fail
  refine Calls.mono (num_err 1 _ (HH.out.below B10.out)) ?_
  rintro e w12 ⟨rfl, hB⟩
  have B12 := Lib.hid (bstep B10.out hB)
  clear  B10
  clear hB
  go_wp2_with fail
  refine Calls.mono (size_nil _) ?_
  rintro e w13 ⟨rfl, rfl⟩
  go_wp2_with fail
  refine Calls.mono (writes_nil _) ?_
  rintro e w14 ⟨rfl, rfl⟩
  go_wp2_with fail
  refine Calls.mono (pending_nil _) ?_
  rintro e w15 ⟨rfl, rfl⟩
  by_cases hbad : n < 1 ∨ 16384 < n
  · rcases hbad with hbad | hbad
    · have hb1 : ¬ 300 < n := by omega
      go_wp2_with fail
      refine Calls.mono (new_bad _ _ (by omega)) ?_
      rintro e w51 ⟨rfl, rfl⟩
      go_wp2_with fail
      refine Calls.mono (num_err 1 _ (HH.out.below B12.out)) ?_
      rintro e w52 ⟨rfl, hB⟩
      have B52 := Lib.hid (bstep B12.out hB)
      clear  B12
      clear hB
      go_wp2_with fail
      refine Calls.mono (sure_any _) ?_
      rintro e w53 ⟨rfl, hB⟩
      have B53 := Lib.hid (bstep B52.out hB)
      clear  B52
      clear hB
      go_wp2
      go_ret
      exact ⟨rfl, B53.out⟩
    · have hb1 : 300 < n := by omega
      have hb2 : ¬ n ≤ 16384 := by omega
      have hb3 : ¬ n < 1 := by omega
      go_wp2_with fail
      refine Calls.mono (new_bad _ _ (by omega)) ?_
      rintro e w51 ⟨rfl, rfl⟩
      go_wp2_with fail
      refine Calls.mono (num_err 1 _ (HH.out.below B12.out)) ?_
      rintro e w52 ⟨rfl, hB⟩
      have B52 := Lib.hid (bstep B12.out hB)
      clear  B12
      clear hB
      go_wp2_with fail
      refine Calls.mono (sure_any _) ?_
      rintro e w53 ⟨rfl, hB⟩
      have B53 := Lib.hid (bstep B52.out hB)
      clear  B52
      clear hB
      go_wp2
      go_ret
      exact ⟨rfl, B53.out⟩
  have hn1 : 1 ≤ n := by omega
  have hn2 : n ≤ 16384 := by omega
  clear hbad
  obtain ⟨k, hk1, hk2, hkk⟩ : ∃ k : Nat, 1 ≤ k ∧ k ≤ 300 ∧ (300 < n ∧ k = 300 ∨ ¬ 300 < n ∧ n = (k : Int)) := by
    by_cases h : 300 < n
    · exact ⟨300, by omega, by omega, .inl ⟨h, rfl⟩⟩
    · exact ⟨n.toNat, by omega, by omega, .inr ⟨h, by omega⟩⟩
  rcases hkk with ⟨h3, rfl⟩ | ⟨h3, rfl⟩
  · go_wp2_with fail
    refine Calls.mono (new_ok 300 _ (by omega) (by omega)) ?_
    rintro e w101 ⟨gd, gn, gs, rfl, hd, hB⟩
    have H101 := Lib.hid hd
    have B101 := Lib.hid (bstep B12.out hB)
    clear hd hB
    go_wp2_with fail
    refine Calls.mono (size_any _ H101.out) ?_
    rintro e w102 ⟨rfl, rfl⟩
    by_cases hi : i < 0 ∨ (300 : Int) ≤ i
    · rcases hi with hi | hi
      · have hi0 := hi
        have hi : i < 0 ∨ (300 : Int) ≤ i := .inl hi0
        go_wp2_with fail
        refine Calls.mono (read_range i _ H101.out hi) ?_
        rintro e w131 ⟨rfl, rfl⟩
        go_wp2_with fail
        refine Calls.mono (num_err 4 _ (HH.out.below B101.out)) ?_
        rintro e w132 ⟨rfl, hB⟩
        have H132 := Lib.hid (H101.out.below hB)
        have B132 := Lib.hid (bstep B101.out hB)
        clear H101 B101
        clear hB
        go_wp2_with fail
        refine Calls.mono (write_range i _ _ _ _ (H132.out.below (balloc (Below.refl _ _) _)) hi) ?_
        rintro e w133 ⟨rfl, rfl⟩
        go_wp2_with fail
        refine Calls.mono (num_err 4 _ (HH.out.below (balloc B132.out _))) ?_
        rintro e w134 ⟨rfl, hB⟩
        have hB2 := bstep (balloc (Below.refl _ _) _) hB
        have H134 := Lib.hid (H132.out.below hB2)
        have B134 := Lib.hid (bstep B132.out hB2)
        clear H132 B132
        clear hB hB2
        go_wp2_with fail
        refine Calls.mono (rot_range i 0 1 _ H134.out hi) ?_
        rintro e w135 ⟨rfl, rfl⟩
        go_wp2_with fail
        refine Calls.mono (num_err 4 _ (HH.out.below B134.out)) ?_
        rintro e w136 ⟨rfl, hB⟩
        have H136 := Lib.hid (H134.out.below hB)
        have B136 := Lib.hid (bstep B134.out hB)
        clear H134 B134
        clear hB
        go_wp2_with fail
        refine Calls.mono (sure_any _) ?_
        rintro e w137 ⟨rfl, hB⟩
        have H137 := Lib.hid (H136.out.below hB)
        have B137 := Lib.hid (bstep B136.out hB)
        clear H136 B136
        clear hB
        go_wp2
        go_ret
        exact ⟨rfl, B137.out⟩
      · have hi0 := hi
        have hi : i < 0 ∨ (300 : Int) ≤ i := .inr hi0
        have hi1 : ¬ i < 0 := by omega
        go_wp2_with fail
        refine Calls.mono (read_range i _ H101.out hi) ?_
        rintro e w131 ⟨rfl, rfl⟩
        go_wp2_with fail
        refine Calls.mono (num_err 4 _ (HH.out.below B101.out)) ?_
        rintro e w132 ⟨rfl, hB⟩
        have H132 := Lib.hid (H101.out.below hB)
        have B132 := Lib.hid (bstep B101.out hB)
        clear H101 B101
        clear hB
        go_wp2_with fail
        refine Calls.mono (write_range i _ _ _ _ (H132.out.below (balloc (Below.refl _ _) _)) hi) ?_
        rintro e w133 ⟨rfl, rfl⟩
        go_wp2_with fail
        refine Calls.mono (num_err 4 _ (HH.out.below (balloc B132.out _))) ?_
        rintro e w134 ⟨rfl, hB⟩
        have hB2 := bstep (balloc (Below.refl _ _) _) hB
        have H134 := Lib.hid (H132.out.below hB2)
        have B134 := Lib.hid (bstep B132.out hB2)
        clear H132 B132
        clear hB hB2
        go_wp2_with fail
        refine Calls.mono (rot_range i 0 1 _ H134.out hi) ?_
        rintro e w135 ⟨rfl, rfl⟩
        go_wp2_with fail
        refine Calls.mono (num_err 4 _ (HH.out.below B134.out)) ?_
        rintro e w136 ⟨rfl, hB⟩
        have H136 := Lib.hid (H134.out.below hB)
        have B136 := Lib.hid (bstep B134.out hB)
        clear H134 B134
        clear hB
        go_wp2_with fail
        refine Calls.mono (sure_any _) ?_
        rintro e w137 ⟨rfl, hB⟩
        have H137 := Lib.hid (H136.out.below hB)
        have B137 := Lib.hid (bstep B136.out hB)
        clear H136 B136
        clear hB
        go_wp2
        go_ret
        exact ⟨rfl, B137.out⟩
    · have hi0 : 0 ≤ i := by omega
      have hi1 : i < (300 : Int) := by omega
      clear hi
      obtain ⟨j, rfl⟩ := Int.eq_ofNat_of_zero_le hi0
      have hj : j < 300 := by omega
      go_wp2_with fail
      refine Calls.mono (read_ok j _ H101.out (hj)) ?_
      rintro e w161 ⟨v, rfl, ho, hB⟩
      obtain ⟨a161, c161, rfl, hr⟩ := ho.reads' (H101.out.snow.get (hj)).2 (H101.out.snow.get (hj)).1 (by decide)
      have H161 := Lib.hid (H101.out.below hB)
      have B161 := Lib.hid (bstep B101.out hB)
      clear H101 B101
      have RA := Lib.hid hr
      clear hB ho hr
      have RA' : Hid (ReadsB w161 a161 512 c161 (secL sE)) := Lib.hid (by
        have := RA.out
        rw [show DiskD.now (disk0 300) = zeroSecs 300 from rfl, zeroSecs_get 300 j hj] at this
        exact this)
      clear RA
      have SH : Hid (∀ W' : World, Below w161.heap.size w161 W' → (convert 29 9 (.slice a161 512 c161)).run Tryd.prog W' = .ok (.string (secS sE)) W') := Lib.hid (fun W' hb => conv_str (ReadsB.below RA'.out hb))
      have HB : Hid (Below w161.heap.size w161 w161.drew) := Lib.hid ((Below.refl _ _).drew)
      go_wp2_with fail
      go_region_held3 (fun W' => (convert 29 9 (.slice a161 512 c161)).run Tryd.prog W' = .ok (.string (secS sE)) W') (first | assumption | exact SH.out _ (by repeat (first | (with_reducible exact HB.out) | exact Below.refl _ _ | apply balloc | apply Below.drew | apply below_drewN))) (first | (go_at_call 10; with_reducible refine Calls.mono (sector_any ⟨#[]⟩ _ (by decide)) ?_; rintro e w91 ⟨rfl, hB⟩; rw [show secS ⟨#[]⟩ = secS sE from rfl]; have n0 := Lib.hid (bstep (show Below w161.heap.size w161 _ from (by repeat (first | (with_reducible exact HB.out) | exact Below.refl _ _ | apply balloc | apply Below.drew | apply below_drewN))) hB); clear HB hB; have HB := n0; clear n0) | (go_at_call 9; with_reducible refine Calls.mono (write_long j _ 511 _ _ (H161.out.below (by repeat (first | (with_reducible exact HB.out) | exact Below.refl _ _ | apply balloc | apply Below.drew | apply below_drewN))) hj (by decide)) ?_; rintro e w92 ⟨rfl, rfl⟩) | (go_at_call 14; with_reducible refine Calls.mono (num_err 2 _ (HH.out.below (bstep B161.out (by repeat (first | (with_reducible exact HB.out) | exact Below.refl _ _ | apply balloc | apply Below.drew | apply below_drewN))))) ?_; rintro e w93 ⟨rfl, hB⟩; have n0 := Lib.hid (bstep (show Below w161.heap.size w161 _ from (by repeat (first | (with_reducible exact HB.out) | exact Below.refl _ _ | apply balloc | apply Below.drew | apply below_drewN))) hB); clear HB hB; have HB := n0; clear n0) | (go_at_call 7; with_reducible refine Calls.mono (sure_any _) ?_; rintro e w94 ⟨rfl, hB⟩; have n0 := Lib.hid (bstep (show Below w161.heap.size w161 _ from (by repeat (first | (with_reducible exact HB.out) | exact Below.refl _ _ | apply balloc | apply Below.drew | apply below_drewN))) hB); clear HB hB; have HB := n0; clear n0))
      all_goals
        go_wp2
        go_ret
        exact ⟨rfl, bstep B161.out HB.out⟩
  · go_wp2_with fail
    refine Calls.mono (new_ok k _ (by omega) (by omega)) ?_
    rintro e w101 ⟨gd, gn, gs, rfl, hd, hB⟩
    have H101 := Lib.hid hd
    have B101 := Lib.hid (bstep B12.out hB)
    clear hd hB
    go_wp2_with fail
    refine Calls.mono (size_any _ H101.out) ?_
    rintro e w102 ⟨rfl, rfl⟩
    by_cases hi : i < 0 ∨ (k : Int) ≤ i
    · rcases hi with hi | hi
      · have hi0 := hi
        have hi : i < 0 ∨ (k : Int) ≤ i := .inl hi0
        go_wp2_with fail
        refine Calls.mono (read_range i _ H101.out hi) ?_
        rintro e w131 ⟨rfl, rfl⟩
        go_wp2_with fail
        refine Calls.mono (num_err 4 _ (HH.out.below B101.out)) ?_
        rintro e w132 ⟨rfl, hB⟩
        have H132 := Lib.hid (H101.out.below hB)
        have B132 := Lib.hid (bstep B101.out hB)
        clear H101 B101
        clear hB
        go_wp2_with fail
        refine Calls.mono (write_range i _ _ _ _ (H132.out.below (balloc (Below.refl _ _) _)) hi) ?_
        rintro e w133 ⟨rfl, rfl⟩
        go_wp2_with fail
        refine Calls.mono (num_err 4 _ (HH.out.below (balloc B132.out _))) ?_
        rintro e w134 ⟨rfl, hB⟩
        have hB2 := bstep (balloc (Below.refl _ _) _) hB
        have H134 := Lib.hid (H132.out.below hB2)
        have B134 := Lib.hid (bstep B132.out hB2)
        clear H132 B132
        clear hB hB2
        go_wp2_with fail
        refine Calls.mono (rot_range i 0 1 _ H134.out hi) ?_
        rintro e w135 ⟨rfl, rfl⟩
        go_wp2_with fail
        refine Calls.mono (num_err 4 _ (HH.out.below B134.out)) ?_
        rintro e w136 ⟨rfl, hB⟩
        have H136 := Lib.hid (H134.out.below hB)
        have B136 := Lib.hid (bstep B134.out hB)
        clear H134 B134
        clear hB
        go_wp2_with fail
        refine Calls.mono (sure_any _) ?_
        rintro e w137 ⟨rfl, hB⟩
        have H137 := Lib.hid (H136.out.below hB)
        have B137 := Lib.hid (bstep B136.out hB)
        clear H136 B136
        clear hB
        go_wp2
        go_ret
        exact ⟨rfl, B137.out⟩
      · have hi0 := hi
        have hi : i < 0 ∨ (k : Int) ≤ i := .inr hi0
        have hi1 : ¬ i < 0 := by omega
        go_wp2_with fail
        refine Calls.mono (read_range i _ H101.out hi) ?_
        rintro e w131 ⟨rfl, rfl⟩
        go_wp2_with fail
        refine Calls.mono (num_err 4 _ (HH.out.below B101.out)) ?_
        rintro e w132 ⟨rfl, hB⟩
        have H132 := Lib.hid (H101.out.below hB)
        have B132 := Lib.hid (bstep B101.out hB)
        clear H101 B101
        clear hB
        go_wp2_with fail
        refine Calls.mono (write_range i _ _ _ _ (H132.out.below (balloc (Below.refl _ _) _)) hi) ?_
        rintro e w133 ⟨rfl, rfl⟩
        go_wp2_with fail
        refine Calls.mono (num_err 4 _ (HH.out.below (balloc B132.out _))) ?_
        rintro e w134 ⟨rfl, hB⟩
        have hB2 := bstep (balloc (Below.refl _ _) _) hB
        have H134 := Lib.hid (H132.out.below hB2)
        have B134 := Lib.hid (bstep B132.out hB2)
        clear H132 B132
        clear hB hB2
        go_wp2_with fail
        refine Calls.mono (rot_range i 0 1 _ H134.out hi) ?_
        rintro e w135 ⟨rfl, rfl⟩
        go_wp2_with fail
        refine Calls.mono (num_err 4 _ (HH.out.below B134.out)) ?_
        rintro e w136 ⟨rfl, hB⟩
        have H136 := Lib.hid (H134.out.below hB)
        have B136 := Lib.hid (bstep B134.out hB)
        clear H134 B134
        clear hB
        go_wp2_with fail
        refine Calls.mono (sure_any _) ?_
        rintro e w137 ⟨rfl, hB⟩
        have H137 := Lib.hid (H136.out.below hB)
        have B137 := Lib.hid (bstep B136.out hB)
        clear H136 B136
        clear hB
        go_wp2
        go_ret
        exact ⟨rfl, B137.out⟩
    · have hi0 : 0 ≤ i := by omega
      have hi1 : i < (k : Int) := by omega
      clear hi
      obtain ⟨j, rfl⟩ := Int.eq_ofNat_of_zero_le hi0
      have hj : j < k := by omega
      go_wp2_with fail
      refine Calls.mono (read_ok j _ H101.out (hj)) ?_
      rintro e w161 ⟨v, rfl, ho, hB⟩
      obtain ⟨a161, c161, rfl, hr⟩ := ho.reads' (H101.out.snow.get (hj)).2 (H101.out.snow.get (hj)).1 (by decide)
      have H161 := Lib.hid (H101.out.below hB)
      have B161 := Lib.hid (bstep B101.out hB)
      clear H101 B101
      have RA := Lib.hid hr
      clear hB ho hr
      have RA' : Hid (ReadsB w161 a161 512 c161 (secL sE)) := Lib.hid (by
        have := RA.out
        rw [show DiskD.now (disk0 k) = zeroSecs k from rfl, zeroSecs_get k j hj] at this
        exact this)
      clear RA
      have SH : Hid (∀ W' : World, Below w161.heap.size w161 W' → (convert 29 9 (.slice a161 512 c161)).run Tryd.prog W' = .ok (.string (secS sE)) W') := Lib.hid (fun W' hb => conv_str (ReadsB.below RA'.out hb))
      have HB : Hid (Below w161.heap.size w161 w161.drew) := Lib.hid ((Below.refl _ _).drew)
      go_wp2_with fail
      go_region_held3 (fun W' => (convert 29 9 (.slice a161 512 c161)).run Tryd.prog W' = .ok (.string (secS sE)) W') (first | assumption | exact SH.out _ (by repeat (first | (with_reducible exact HB.out) | exact Below.refl _ _ | apply balloc | apply Below.drew | apply below_drewN))) (first | (go_at_call 10; with_reducible refine Calls.mono (sector_any ⟨#[]⟩ _ (by decide)) ?_; rintro e w91 ⟨rfl, hB⟩; rw [show secS ⟨#[]⟩ = secS sE from rfl]; have n0 := Lib.hid (bstep (show Below w161.heap.size w161 _ from (by repeat (first | (with_reducible exact HB.out) | exact Below.refl _ _ | apply balloc | apply Below.drew | apply below_drewN))) hB); clear HB hB; have HB := n0; clear n0) | (go_at_call 9; with_reducible refine Calls.mono (write_long j _ 511 _ _ (H161.out.below (by repeat (first | (with_reducible exact HB.out) | exact Below.refl _ _ | apply balloc | apply Below.drew | apply below_drewN))) hj (by decide)) ?_; rintro e w92 ⟨rfl, rfl⟩) | (go_at_call 14; with_reducible refine Calls.mono (num_err 2 _ (HH.out.below (bstep B161.out (by repeat (first | (with_reducible exact HB.out) | exact Below.refl _ _ | apply balloc | apply Below.drew | apply below_drewN))))) ?_; rintro e w93 ⟨rfl, hB⟩; have n0 := Lib.hid (bstep (show Below w161.heap.size w161 _ from (by repeat (first | (with_reducible exact HB.out) | exact Below.refl _ _ | apply balloc | apply Below.drew | apply below_drewN))) hB); clear HB hB; have HB := n0; clear n0) | (go_at_call 7; with_reducible refine Calls.mono (sure_any _) ?_; rintro e w94 ⟨rfl, hB⟩; have n0 := Lib.hid (bstep (show Below w161.heap.size w161 _ from (by repeat (first | (with_reducible exact HB.out) | exact Below.refl _ _ | apply balloc | apply Below.drew | apply below_drewN))) hB); clear HB hB; have HB := n0; clear n0))
      all_goals
        go_wp2
        go_ret
        exact ⟨rfl, bstep B161.out HB.out⟩
end Go.Proofs.YtdoaalbgmdpamaaDoor
