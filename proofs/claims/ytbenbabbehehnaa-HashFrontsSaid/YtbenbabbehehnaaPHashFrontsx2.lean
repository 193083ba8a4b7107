/- Functions of the given program as plain Lean functions, and the proofs that the calls do so: written by a program of this session (a turned copy of the print tool). -/
import Derived.Test.YtbenbabbehehnaaPHashFrontsx0
import Derived.Test.YtbenbabbehehnaaPHashFrontsx1
namespace Go.Proofs.Ytbenbabbehehnaa.PHashFronts
open Go.RowKit Go.Proofs.YtbenbabbehehnaaW.PrintWords Go.Proofs.YtbenbabbehehnaaW.PrintLast Go.Proofs.YtbenbabbehehnaaW.PrintMore
attribute [local go_sem] max2_int min2_int max_two min_two max_three min_three max_four min_four   -- for this text's walks alone
set_option linter.unusedVariables false
set_option linter.unusedSimpArgs false

/-! ### quiltlaw06_HashFronts: function 6 -/
def quiltlaw06_HashFronts.j0 : Nat → Int → Int → Int → Int → Option (Bool)
  | 0, _, _, _, _ => none
  | k + 1, x0, x1, x7, x8 => (hash_Front.f x0 x7).bind fun t115 => ((hash_Front.f x0 x8).bind fun t116 => (if t115 ≥ 0 then (if 0 ≤ x7 then (if t115 < (shl .i64 1 x7) then (if 0 ≤ (wrap64 (x8 - x7)) then (if (shr .i64 t116 (wrap64 (x8 - x7))) = t115 then ((hash_Front.f x0 (wrap64 (33 + (Int.tmod x1 1000)))).bind fun t117 => ((hash_Front.f x0 (mx 0 (mn 32 (wrap64 (33 + (Int.tmod x1 1000)))))).bind fun t118 => (if t117 = t118 then ((quiltlaw06_sure.f k).bind fun t119 => (some t119)) else (some false)))) else (some false)) else (none)) else (some false)) else (none)) else (some false)))
def quiltlaw06_HashFronts.f (k : Nat) (a0 : Int) (a1 : Int) (a2 : Int) : Option (Bool) := if (wrap64 (Int.tmod (IntKind.u64.wrap (a1)) 33)) > (wrap64 (Int.tmod (IntKind.u64.wrap (a2)) 33)) then (quiltlaw06_HashFronts.j0 k a0 a1 (wrap64 (Int.tmod (IntKind.u64.wrap (a2)) 33)) (wrap64 (Int.tmod (IntKind.u64.wrap (a1)) 33))) else (quiltlaw06_HashFronts.j0 k a0 a1 (wrap64 (Int.tmod (IntKind.u64.wrap (a1)) 33)) (wrap64 (Int.tmod (IntKind.u64.wrap (a2)) 33)))
theorem quiltlaw06_HashFronts.mono_l : ∀ k, (∀ y0 y1 y2 y3, LeO (quiltlaw06_HashFronts.j0 k y0 y1 y2 y3) (quiltlaw06_HashFronts.j0 (k + 1) y0 y1 y2 y3))
  | 0 => fun _ _ _ _ r h => by simp [quiltlaw06_HashFronts.j0] at h
  | k + 1 => by
    have ih0 := quiltlaw06_HashFronts.mono_l k
    · intro y0 y1 y2 y3
      unfold quiltlaw06_HashFronts.j0
      repeat' first
      | (with_reducible exact ih0 _ _ _ _)
      | (with_reducible exact quiltlaw06_sure.mono _)
      | (with_reducible exact LeO.refl _)
      | (with_reducible exact LeO.none _)
      | (with_reducible refine LeO.ite ?_ ?_)
      | (with_reducible refine LeO.bind ?_ (fun _ => ?_))
      | exact ih0 _ _ _ _
      | exact quiltlaw06_sure.mono _
      | exact LeO.none _
      | refine LeO.ite ?_ ?_
      | refine LeO.bind ?_ (fun _ => ?_)
theorem quiltlaw06_HashFronts.mono : ∀ a0 a1 a2 k, LeO (quiltlaw06_HashFronts.f k a0 a1 a2) (quiltlaw06_HashFronts.f (k + 1) a0 a1 a2) := by
  intro a0 a1 a2 k
  have ih0 := quiltlaw06_HashFronts.mono_l k
  unfold quiltlaw06_HashFronts.f
  repeat' first
      | (with_reducible exact ih0 _ _ _ _)
      | (with_reducible exact quiltlaw06_sure.mono _)
      | (with_reducible exact LeO.refl _)
      | (with_reducible exact LeO.none _)
      | (with_reducible refine LeO.ite ?_ ?_)
      | (with_reducible refine LeO.bind ?_ (fun _ => ?_))
      | exact ih0 _ _ _ _
      | exact quiltlaw06_sure.mono _
      | exact LeO.none _
      | refine LeO.ite ?_ ?_
      | refine LeO.bind ?_ (fun _ => ?_)
set_option maxHeartbeats 8000000 in
set_option maxRecDepth 100000 in
theorem quiltlaw06_HashFronts.calls (k : Nat) (a0 : Int) (a1 : Int) (a2 : Int) (r : Bool) (w : World) (h : quiltlaw06_HashFronts.f k a0 a1 a2 = some r) :
    Calls Try.prog 6 #[.int .u64 a0, .int .i64 a1, .int .i64 a2] w fun e w' => e = .returned (.bool r) ∧ Below w.heap.size w w' := by
  have HB := Aside0.mk (Below.refl w.heap.size w)
  have H : (if (wrap64 (Int.tmod (IntKind.u64.wrap (a1)) 33)) > (wrap64 (Int.tmod (IntKind.u64.wrap (a2)) 33)) then (quiltlaw06_HashFronts.j0 k a0 a1 (wrap64 (Int.tmod (IntKind.u64.wrap (a2)) 33)) (wrap64 (Int.tmod (IntKind.u64.wrap (a1)) 33))) else (quiltlaw06_HashFronts.j0 k a0 a1 (wrap64 (Int.tmod (IntKind.u64.wrap (a1)) 33)) (wrap64 (Int.tmod (IntKind.u64.wrap (a2)) 33)))) = some r := h
  clear h
  have HC4 := Aside0.mk H
  clear H
  go_enter Try.func6, Try.ntmps6
  go_upto_if 21 with (fail)
  go_cut [7, 8] (fun v7 v8 wc => ∃ (kq : Nat) (x7_3 : Int) (x8_3 : Int), v7 = .int .i64 x7_3 ∧ v8 = .int .i64 x8_3 ∧ Aside0 (quiltlaw06_HashFronts.j0 kq a0 a1 x7_3 x8_3 = some r) ∧ Aside0 (kq ≤ k) ∧ Aside0 (Below w.heap.size w wc))
  case first =>
    have H := HC4.out
    clear HC4
    by_cases c5 : (wrap64 (Int.tmod (IntKind.u64.wrap (a1)) 33)) > (wrap64 (Int.tmod (IntKind.u64.wrap (a2)) 33))
    · rw [if_pos c5] at H
      have c5b0 : decide ((wrap64 (Int.tmod (IntKind.u64.wrap (a2)) 33)) < (wrap64 (Int.tmod (IntKind.u64.wrap (a1)) 33))) = true := decide_eq_true c5
      clear c5
      (first | rw [c5b0] | (simp only [i64_w, i32_w]; rw [c5b0]) | skip)
      have H' := Aside0.mk H
      clear H
      go_wp2
      go_meet
      case rel => exact ⟨_, (wrap64 (Int.tmod (IntKind.u64.wrap (a2)) 33)), (wrap64 (Int.tmod (IntKind.u64.wrap (a1)) 33)), (by first | rfl | (simp; done) | (simp [*]; done)), (by first | rfl | (simp; done) | (simp [*]; done)), H', ⟨by first | omega | exact Nat.le_refl _⟩, ⟨by repeat (first | (with_reducible first | exact HB.out | apply below_alloc | apply pw_below_drewN | apply below_drew1) | exact HB.out)⟩⟩
    · rw [if_neg c5] at H
      have c5b0 : decide ((wrap64 (Int.tmod (IntKind.u64.wrap (a2)) 33)) < (wrap64 (Int.tmod (IntKind.u64.wrap (a1)) 33))) = false := decide_eq_false c5
      clear c5
      (first | rw [c5b0] | (simp only [i64_w, i32_w]; rw [c5b0]) | skip)
      have H' := Aside0.mk H
      clear H
      go_wp2
      go_meet
      case rel => exact ⟨_, (wrap64 (Int.tmod (IntKind.u64.wrap (a1)) 33)), (wrap64 (Int.tmod (IntKind.u64.wrap (a2)) 33)), (by first | rfl | (simp; done) | (simp [*]; done)), (by first | rfl | (simp; done) | (simp [*]; done)), H', ⟨by first | omega | exact Nat.le_refl _⟩, ⟨by repeat (first | (with_reducible first | exact HB.out | apply below_alloc | apply pw_below_drewN | apply below_drew1) | exact HB.out)⟩⟩
  case rest =>
    clear HC4
    try clear p2
    try clear c5
    try clear c5b0
    obtain ⟨kq, x7_3, x8_3, rfl, rfl, HA, HJ3, HB⟩ := hcut
    cases kq with
    | zero => exact absurd HA.out (by simp [quiltlaw06_HashFronts.j0])
    | succ kj3 =>
      have H := HA.out
      clear HA
      simp only [quiltlaw06_HashFronts.j0] at H
      replace H := Option.bind_eq_some_iff.mp H
      obtain ⟨t115, A60, H⟩ := H
      replace H : ((hash_Front.f a0 x8_3).bind fun t116 => (if t115 ≥ 0 then (if 0 ≤ x7_3 then (if t115 < (shl .i64 1 x7_3) then (if 0 ≤ (wrap64 (x8_3 - x7_3)) then (if (shr .i64 t116 (wrap64 (x8_3 - x7_3))) = t115 then ((hash_Front.f a0 (wrap64 (33 + (Int.tmod a1 1000)))).bind fun t117 => ((hash_Front.f a0 (mx 0 (mn 32 (wrap64 (33 + (Int.tmod a1 1000)))))).bind fun t118 => (if t117 = t118 then ((quiltlaw06_sure.f kj3).bind fun t119 => (some t119)) else (some false)))) else (some false)) else (none)) else (some false)) else (none)) else (some false))) = some r := H
      have A6 := Aside0.mk A60
      clear A60
      replace H := Option.bind_eq_some_iff.mp H
      obtain ⟨t116, A70, H⟩ := H
      replace H : (if t115 ≥ 0 then (if 0 ≤ x7_3 then (if t115 < (shl .i64 1 x7_3) then (if 0 ≤ (wrap64 (x8_3 - x7_3)) then (if (shr .i64 t116 (wrap64 (x8_3 - x7_3))) = t115 then ((hash_Front.f a0 (wrap64 (33 + (Int.tmod a1 1000)))).bind fun t117 => ((hash_Front.f a0 (mx 0 (mn 32 (wrap64 (33 + (Int.tmod a1 1000)))))).bind fun t118 => (if t117 = t118 then ((quiltlaw06_sure.f kj3).bind fun t119 => (some t119)) else (some false)))) else (some false)) else (none)) else (some false)) else (none)) else (some false)) = some r := H
      have A7 := Aside0.mk A70
      clear A70
      by_cases c8 : t115 ≥ 0
      · rw [if_pos c8] at H
        have c8b0 : decide (0 ≤ t115) = true := decide_eq_true c8
        clear c8
        by_cases c9 : 0 ≤ x7_3
        · rw [if_pos c9] at H
          have c9b0 := eq_true c9
          have c9b1 : decide (0 ≤ x7_3) = true := decide_eq_true c9
          clear c9
          obtain ⟨ji10, hji10⟩ : ∃ j_ : Int, (shl .i64 1 x7_3) = j_ := ⟨_, rfl⟩
          replace H : (if t115 < (ji10) then (if 0 ≤ (wrap64 (x8_3 - x7_3)) then (if (shr .i64 t116 (wrap64 (x8_3 - x7_3))) = t115 then ((hash_Front.f a0 (wrap64 (33 + (Int.tmod a1 1000)))).bind fun t117 => ((hash_Front.f a0 (mx 0 (mn 32 (wrap64 (33 + (Int.tmod a1 1000)))))).bind fun t118 => (if t117 = t118 then ((quiltlaw06_sure.f kj3).bind fun t119 => (some t119)) else (some false)))) else (some false)) else (none)) else (some false)) = some r := by first | (rw [hji10] at H; exact H) | (simp only [hji10] at H ⊢; exact H)
          (try rw [hji10] at A6)
          (try rw [hji10] at A7)
          have hji10_ : (IntKind.i64.wrap (1 * 2 ^ min x7_3.toNat 64)) = ji10 := hji10
          have hji10z : x7_3 ≤ 64 → (IntKind.i64.wrap (1 * 2 ^ x7_3.toNat)) = ji10 := shl_small hji10
          have hji10u : (IntKind.i64.wrap (2 ^ min x7_3.toNat 64)) = ji10 := by have h_ := hji10_; rw [Int.one_mul] at h_; exact h_
          have hji10v : x7_3 ≤ 64 → (IntKind.i64.wrap (2 ^ x7_3.toNat)) = ji10 := fun hle_ => by have h_ := hji10z hle_; rw [Int.one_mul] at h_; exact h_
          have hji10y : (wrap64 (1 * 2 ^ min x7_3.toNat 64)) = ji10 := (i64_w _).symm.trans hji10_
          have hji10x : x7_3 ≤ 64 → (wrap64 (1 * 2 ^ x7_3.toNat)) = ji10 := fun h_ => (i64_w _).symm.trans (hji10z h_)
          by_cases c11 : t115 < (ji10)
          · rw [if_pos c11] at H
            have c11b0 : decide (t115 < (ji10)) = true := decide_eq_true c11
            clear c11
            obtain ⟨ji12, hji12⟩ : ∃ j_ : Int, (wrap64 (x8_3 - x7_3)) = j_ := ⟨_, rfl⟩
            replace H : (if 0 ≤ (ji12) then (if (shr .i64 t116 (ji12)) = t115 then ((hash_Front.f a0 (wrap64 (33 + (Int.tmod a1 1000)))).bind fun t117 => ((hash_Front.f a0 (mx 0 (mn 32 (wrap64 (33 + (Int.tmod a1 1000)))))).bind fun t118 => (if t117 = t118 then ((quiltlaw06_sure.f kj3).bind fun t119 => (some t119)) else (some false)))) else (some false)) else (none)) = some r := by first | (rw [hji12] at H; exact H) | (simp only [hji12] at H ⊢; exact H)
            (try rw [hji12] at A6)
            (try rw [hji12] at A7)
            have hji12w : (IntKind.i64.wrap (x8_3 - x7_3)) = ji12 := (i64_w _).trans hji12
            by_cases c13 : 0 ≤ (ji12)
            · rw [if_pos c13] at H
              have c13b0 := eq_true c13
              have c13b1 : decide (0 ≤ (ji12)) = true := decide_eq_true c13
              clear c13
              obtain ⟨ji14, hji14⟩ : ∃ j_ : Int, (shr .i64 t116 (ji12)) = j_ := ⟨_, rfl⟩
              replace H : (if (ji14) = t115 then ((hash_Front.f a0 (wrap64 (33 + (Int.tmod a1 1000)))).bind fun t117 => ((hash_Front.f a0 (mx 0 (mn 32 (wrap64 (33 + (Int.tmod a1 1000)))))).bind fun t118 => (if t117 = t118 then ((quiltlaw06_sure.f kj3).bind fun t119 => (some t119)) else (some false)))) else (some false)) = some r := by first | (rw [hji14] at H; exact H) | (simp only [hji14] at H ⊢; exact H)
              (try rw [hji14] at A6)
              (try rw [hji14] at A7)
              have hji14_ : (t116 / 2 ^ min (ji12).toNat 64) = ji14 := hji14
              have hji14z : (ji12) ≤ 64 → (t116 / 2 ^ (ji12).toNat) = ji14 := shr_small hji14
              by_cases c15 : (ji14) = t115
              · rw [if_pos c15] at H
                have c15b0 : ((ji14) == t115) = true := beq_iff_eq.mpr c15
                have c15b1 : ((ji14) != t115) = false := bne_eq_false_iff_eq.mpr c15
                clear c15
                replace H := Option.bind_eq_some_iff.mp H
                obtain ⟨t117, A160, H⟩ := H
                replace H : ((hash_Front.f a0 (mx 0 (mn 32 (wrap64 (33 + (Int.tmod a1 1000)))))).bind fun t118 => (if t117 = t118 then ((quiltlaw06_sure.f kj3).bind fun t119 => (some t119)) else (some false))) = some r := H
                have A16 := Aside0.mk A160
                clear A160
                obtain ⟨ji17, hji17⟩ : ∃ j_ : Int, (mn 32 (wrap64 (33 + (Int.tmod a1 1000)))) = j_ := ⟨_, rfl⟩
                replace H : ((hash_Front.f a0 (mx 0 (ji17))).bind fun t118 => (if t117 = t118 then ((quiltlaw06_sure.f kj3).bind fun t119 => (some t119)) else (some false))) = some r := by first | (rw [hji17] at H; exact H) | (simp only [hji17] at H ⊢; exact H)
                (try rw [hji17] at A6)
                (try rw [hji17] at A7)
                (try rw [hji17] at A16)
                have hji17_ : (if (wrap64 (33 + (Int.tmod a1 1000))) < 32 then (wrap64 (33 + (Int.tmod a1 1000))) else 32) = ji17 := hji17
                obtain ⟨ji18, hji18⟩ : ∃ j_ : Int, (mx 0 (ji17)) = j_ := ⟨_, rfl⟩
                replace H : ((hash_Front.f a0 (ji18)).bind fun t118 => (if t117 = t118 then ((quiltlaw06_sure.f kj3).bind fun t119 => (some t119)) else (some false))) = some r := by first | (rw [hji18] at H; exact H) | (simp only [hji18] at H ⊢; exact H)
                (try rw [hji18] at A6)
                (try rw [hji18] at A7)
                (try rw [hji18] at A16)
                have hji18_ : (if 0 < (ji17) then (ji17) else 0) = ji18 := hji18
                replace H := Option.bind_eq_some_iff.mp H
                obtain ⟨t118, A190, H⟩ := H
                replace H : (if t117 = t118 then ((quiltlaw06_sure.f kj3).bind fun t119 => (some t119)) else (some false)) = some r := H
                have A19 := Aside0.mk A190
                clear A190
                by_cases c20 : t117 = t118
                · rw [if_pos c20] at H
                  have c20b0 : (t117 == t118) = true := beq_iff_eq.mpr c20
                  have c20b1 : (t117 != t118) = false := bne_eq_false_iff_eq.mpr c20
                  clear c20
                  replace H := Option.bind_eq_some_iff.mp H
                  obtain ⟨t119, A210, H⟩ := H
                  replace H : (some t119) = some r := H
                  have A21 := Aside0.mk A210
                  clear A210
                  obtain rfl := Option.some.inj H
                  go_wp2_with (first | ((with_reducible refine gate_callee (f := 14) rfl ?_); refine goesL_ (some 26) rfl rfl Try.func14 (by kernel_rfl) rfl #[.int .u64 a0, .int .i64 x7_3] rfl (by (try simp only [List.map_toArray, List.map_cons, List.map_nil]); first | done | rfl | (simp only [List.length_drop, List.length_take]; rfl)) ?_; (with_reducible refine (hash_Front.calls a0 x7_3 t115 _ A6.out).mono ?_); rintro e w22 ⟨rfl, hb⟩; refine ⟨_, rfl, ?_⟩; have n0_ := Aside0.mk (below_step (by repeat (first | (with_reducible first | exact HB.out | apply below_alloc | apply pw_below_drewN | apply below_drew1) | exact HB.out)) hb); clear HB; have HB := n0_; clear n0_; (try clear hb); (try clear hb2); (try clear hk); (try clear hi)) | ((with_reducible refine gate_callee (f := 14) rfl ?_); refine goesL_ (some 29) rfl rfl Try.func14 (by kernel_rfl) rfl #[.int .u64 a0, .int .i64 x8_3] rfl (by (try simp only [List.map_toArray, List.map_cons, List.map_nil]); first | done | rfl | (simp only [List.length_drop, List.length_take]; rfl)) ?_; (with_reducible refine (hash_Front.calls a0 x8_3 t116 _ A7.out).mono ?_); rintro e w23 ⟨rfl, hb⟩; refine ⟨_, rfl, ?_⟩; have n0_ := Aside0.mk (below_step (by repeat (first | (with_reducible first | exact HB.out | apply below_alloc | apply pw_below_drewN | apply below_drew1) | exact HB.out)) hb); clear HB; have HB := n0_; clear n0_; (try clear hb); (try clear hb2); (try clear hk); (try clear hi)) | (go_at_call 14; (with_reducible refine (hash_Front.calls a0 (wrap64 (33 + (Int.tmod a1 1000))) t117 _ A16.out).mono ?_); rintro e w24 ⟨rfl, hb⟩; have n0_ := Aside0.mk (below_step (by repeat (first | (with_reducible first | exact HB.out | apply below_alloc | apply pw_below_drewN | apply below_drew1) | exact HB.out)) hb); clear HB; have HB := n0_; clear n0_; (try clear hb); (try clear hb2); (try clear hk); (try clear hi)) | (go_at_call 14; (with_reducible refine (hash_Front.calls a0 ji18 t118 _ A19.out).mono ?_); rintro e w25 ⟨rfl, hb⟩; have n0_ := Aside0.mk (below_step (by repeat (first | (with_reducible first | exact HB.out | apply below_alloc | apply pw_below_drewN | apply below_drew1) | exact HB.out)) hb); clear HB; have HB := n0_; clear n0_; (try clear hb); (try clear hb2); (try clear hk); (try clear hi)) | (go_at_call 9; (with_reducible refine (quiltlaw06_sure.calls kj3  t119 _ A21.out).mono ?_); rintro e w26 ⟨rfl, hb⟩; have n0_ := Aside0.mk (below_step (by repeat (first | (with_reducible first | exact HB.out | apply below_alloc | apply pw_below_drewN | apply below_drew1) | exact HB.out)) hb); clear HB; have HB := n0_; clear n0_; (try clear hb); (try clear hb2); (try clear hk); (try clear hi)))
                  go_ret
                  exact ⟨by first | rfl | (simp [errW_none, errW_some] <;> rfl) | (simp only [← hji10, ← hji12, ← hji14, ← hji17, ← hji18]; first | rfl | (simp [errW_none, errW_some] <;> rfl)) | (simp [*, errW_none, errW_some] <;> rfl), by repeat (first | (with_reducible first | exact HB.out | apply below_alloc | apply pw_below_drewN | apply below_drew1) | exact HB.out)⟩
                · rw [if_neg c20] at H
                  have c20b0 : (t117 == t118) = false := beq_eq_false_iff_ne.mpr c20
                  have c20b1 : (t117 != t118) = true := bne_iff_ne.mpr c20
                  obtain rfl := Option.some.inj H
                  go_wp2_with (first | ((with_reducible refine gate_callee (f := 14) rfl ?_); refine goesL_ (some 26) rfl rfl Try.func14 (by kernel_rfl) rfl #[.int .u64 a0, .int .i64 x7_3] rfl (by (try simp only [List.map_toArray, List.map_cons, List.map_nil]); first | done | rfl | (simp only [List.length_drop, List.length_take]; rfl)) ?_; (with_reducible refine (hash_Front.calls a0 x7_3 t115 _ A6.out).mono ?_); rintro e w27 ⟨rfl, hb⟩; refine ⟨_, rfl, ?_⟩; have n0_ := Aside0.mk (below_step (by repeat (first | (with_reducible first | exact HB.out | apply below_alloc | apply pw_below_drewN | apply below_drew1) | exact HB.out)) hb); clear HB; have HB := n0_; clear n0_; (try clear hb); (try clear hb2); (try clear hk); (try clear hi)) | ((with_reducible refine gate_callee (f := 14) rfl ?_); refine goesL_ (some 29) rfl rfl Try.func14 (by kernel_rfl) rfl #[.int .u64 a0, .int .i64 x8_3] rfl (by (try simp only [List.map_toArray, List.map_cons, List.map_nil]); first | done | rfl | (simp only [List.length_drop, List.length_take]; rfl)) ?_; (with_reducible refine (hash_Front.calls a0 x8_3 t116 _ A7.out).mono ?_); rintro e w28 ⟨rfl, hb⟩; refine ⟨_, rfl, ?_⟩; have n0_ := Aside0.mk (below_step (by repeat (first | (with_reducible first | exact HB.out | apply below_alloc | apply pw_below_drewN | apply below_drew1) | exact HB.out)) hb); clear HB; have HB := n0_; clear n0_; (try clear hb); (try clear hb2); (try clear hk); (try clear hi)) | (go_at_call 14; (with_reducible refine (hash_Front.calls a0 (wrap64 (33 + (Int.tmod a1 1000))) t117 _ A16.out).mono ?_); rintro e w29 ⟨rfl, hb⟩; have n0_ := Aside0.mk (below_step (by repeat (first | (with_reducible first | exact HB.out | apply below_alloc | apply pw_below_drewN | apply below_drew1) | exact HB.out)) hb); clear HB; have HB := n0_; clear n0_; (try clear hb); (try clear hb2); (try clear hk); (try clear hi)) | (go_at_call 14; (with_reducible refine (hash_Front.calls a0 ji18 t118 _ A19.out).mono ?_); rintro e w30 ⟨rfl, hb⟩; have n0_ := Aside0.mk (below_step (by repeat (first | (with_reducible first | exact HB.out | apply below_alloc | apply pw_below_drewN | apply below_drew1) | exact HB.out)) hb); clear HB; have HB := n0_; clear n0_; (try clear hb); (try clear hb2); (try clear hk); (try clear hi)))
                  go_ret
                  exact ⟨by first | rfl | (simp [errW_none, errW_some] <;> rfl) | (simp only [← hji10, ← hji12, ← hji14, ← hji17, ← hji18]; first | rfl | (simp [errW_none, errW_some] <;> rfl)) | (simp [*, errW_none, errW_some] <;> rfl), by repeat (first | (with_reducible first | exact HB.out | apply below_alloc | apply pw_below_drewN | apply below_drew1) | exact HB.out)⟩
              · rw [if_neg c15] at H
                have c15b0 : ((ji14) == t115) = false := beq_eq_false_iff_ne.mpr c15
                have c15b1 : ((ji14) != t115) = true := bne_iff_ne.mpr c15
                obtain rfl := Option.some.inj H
                go_wp2_with (first | ((with_reducible refine gate_callee (f := 14) rfl ?_); refine goesL_ (some 26) rfl rfl Try.func14 (by kernel_rfl) rfl #[.int .u64 a0, .int .i64 x7_3] rfl (by (try simp only [List.map_toArray, List.map_cons, List.map_nil]); first | done | rfl | (simp only [List.length_drop, List.length_take]; rfl)) ?_; (with_reducible refine (hash_Front.calls a0 x7_3 t115 _ A6.out).mono ?_); rintro e w31 ⟨rfl, hb⟩; refine ⟨_, rfl, ?_⟩; have n0_ := Aside0.mk (below_step (by repeat (first | (with_reducible first | exact HB.out | apply below_alloc | apply pw_below_drewN | apply below_drew1) | exact HB.out)) hb); clear HB; have HB := n0_; clear n0_; (try clear hb); (try clear hb2); (try clear hk); (try clear hi)) | ((with_reducible refine gate_callee (f := 14) rfl ?_); refine goesL_ (some 29) rfl rfl Try.func14 (by kernel_rfl) rfl #[.int .u64 a0, .int .i64 x8_3] rfl (by (try simp only [List.map_toArray, List.map_cons, List.map_nil]); first | done | rfl | (simp only [List.length_drop, List.length_take]; rfl)) ?_; (with_reducible refine (hash_Front.calls a0 x8_3 t116 _ A7.out).mono ?_); rintro e w32 ⟨rfl, hb⟩; refine ⟨_, rfl, ?_⟩; have n0_ := Aside0.mk (below_step (by repeat (first | (with_reducible first | exact HB.out | apply below_alloc | apply pw_below_drewN | apply below_drew1) | exact HB.out)) hb); clear HB; have HB := n0_; clear n0_; (try clear hb); (try clear hb2); (try clear hk); (try clear hi)))
                go_ret
                exact ⟨by first | rfl | (simp [errW_none, errW_some] <;> rfl) | (simp only [← hji10, ← hji12, ← hji14]; first | rfl | (simp [errW_none, errW_some] <;> rfl)) | (simp [*, errW_none, errW_some] <;> rfl), by repeat (first | (with_reducible first | exact HB.out | apply below_alloc | apply pw_below_drewN | apply below_drew1) | exact HB.out)⟩
            · rw [if_neg c13] at H
              exact absurd H (by simp)
          · rw [if_neg c11] at H
            have c11b0 : decide (t115 < (ji10)) = false := decide_eq_false c11
            clear c11
            obtain rfl := Option.some.inj H
            go_wp2_with (first | ((with_reducible refine gate_callee (f := 14) rfl ?_); refine goesL_ (some 26) rfl rfl Try.func14 (by kernel_rfl) rfl #[.int .u64 a0, .int .i64 x7_3] rfl (by (try simp only [List.map_toArray, List.map_cons, List.map_nil]); first | done | rfl | (simp only [List.length_drop, List.length_take]; rfl)) ?_; (with_reducible refine (hash_Front.calls a0 x7_3 t115 _ A6.out).mono ?_); rintro e w33 ⟨rfl, hb⟩; refine ⟨_, rfl, ?_⟩; have n0_ := Aside0.mk (below_step (by repeat (first | (with_reducible first | exact HB.out | apply below_alloc | apply pw_below_drewN | apply below_drew1) | exact HB.out)) hb); clear HB; have HB := n0_; clear n0_; (try clear hb); (try clear hb2); (try clear hk); (try clear hi)) | ((with_reducible refine gate_callee (f := 14) rfl ?_); refine goesL_ (some 29) rfl rfl Try.func14 (by kernel_rfl) rfl #[.int .u64 a0, .int .i64 x8_3] rfl (by (try simp only [List.map_toArray, List.map_cons, List.map_nil]); first | done | rfl | (simp only [List.length_drop, List.length_take]; rfl)) ?_; (with_reducible refine (hash_Front.calls a0 x8_3 t116 _ A7.out).mono ?_); rintro e w34 ⟨rfl, hb⟩; refine ⟨_, rfl, ?_⟩; have n0_ := Aside0.mk (below_step (by repeat (first | (with_reducible first | exact HB.out | apply below_alloc | apply pw_below_drewN | apply below_drew1) | exact HB.out)) hb); clear HB; have HB := n0_; clear n0_; (try clear hb); (try clear hb2); (try clear hk); (try clear hi)))
            go_ret
            exact ⟨by first | rfl | (simp [errW_none, errW_some] <;> rfl) | (simp only [← hji10]; first | rfl | (simp [errW_none, errW_some] <;> rfl)) | (simp [*, errW_none, errW_some] <;> rfl), by repeat (first | (with_reducible first | exact HB.out | apply below_alloc | apply pw_below_drewN | apply below_drew1) | exact HB.out)⟩
        · rw [if_neg c9] at H
          exact absurd H (by simp)
      · rw [if_neg c8] at H
        have c8b0 : decide (0 ≤ t115) = false := decide_eq_false c8
        clear c8
        obtain rfl := Option.some.inj H
        go_wp2_with (first | ((with_reducible refine gate_callee (f := 14) rfl ?_); refine goesL_ (some 26) rfl rfl Try.func14 (by kernel_rfl) rfl #[.int .u64 a0, .int .i64 x7_3] rfl (by (try simp only [List.map_toArray, List.map_cons, List.map_nil]); first | done | rfl | (simp only [List.length_drop, List.length_take]; rfl)) ?_; (with_reducible refine (hash_Front.calls a0 x7_3 t115 _ A6.out).mono ?_); rintro e w35 ⟨rfl, hb⟩; refine ⟨_, rfl, ?_⟩; have n0_ := Aside0.mk (below_step (by repeat (first | (with_reducible first | exact HB.out | apply below_alloc | apply pw_below_drewN | apply below_drew1) | exact HB.out)) hb); clear HB; have HB := n0_; clear n0_; (try clear hb); (try clear hb2); (try clear hk); (try clear hi)) | ((with_reducible refine gate_callee (f := 14) rfl ?_); refine goesL_ (some 29) rfl rfl Try.func14 (by kernel_rfl) rfl #[.int .u64 a0, .int .i64 x8_3] rfl (by (try simp only [List.map_toArray, List.map_cons, List.map_nil]); first | done | rfl | (simp only [List.length_drop, List.length_take]; rfl)) ?_; (with_reducible refine (hash_Front.calls a0 x8_3 t116 _ A7.out).mono ?_); rintro e w36 ⟨rfl, hb⟩; refine ⟨_, rfl, ?_⟩; have n0_ := Aside0.mk (below_step (by repeat (first | (with_reducible first | exact HB.out | apply below_alloc | apply pw_below_drewN | apply below_drew1) | exact HB.out)) hb); clear HB; have HB := n0_; clear n0_; (try clear hb); (try clear hb2); (try clear hk); (try clear hi)))
        go_ret
        exact ⟨by first | rfl | (simp [errW_none, errW_some] <;> rfl) | (simp [*, errW_none, errW_some] <;> rfl), by repeat (first | (with_reducible first | exact HB.out | apply below_alloc | apply pw_below_drewN | apply below_drew1) | exact HB.out)⟩

/-- THE ONE PURE STATEMENT of quiltlaw06_HashFronts: yours. -/
def quiltlaw06_HashFronts.Pure : Prop := ∀ (a0 : Int) (a1 : Int) (a2 : Int), (Lit.int .u64 a0).wf = true → (Lit.int .i64 a1).wf = true → (Lit.int .i64 a2).wf = true → ∃ k, quiltlaw06_HashFronts.f k a0 a1 a2 = some true
theorem quiltlaw06_HashFronts.walk (P : quiltlaw06_HashFronts.Pure) (a0 : Int) (a1 : Int) (a2 : Int) (w : World) (w0 : (Lit.int .u64 a0).wf = true) (w1 : (Lit.int .i64 a1).wf = true) (w2 : (Lit.int .i64 a2).wf = true) :
    Calls Try.prog 6 #[.int .u64 a0, .int .i64 a1, .int .i64 a2] w fun e w' => e = .returned (.bool true) ∧ Below w.heap.size w w' := by
  obtain ⟨k, h⟩ := P a0 a1 a2 w0 w1 w2
  refine (quiltlaw06_HashFronts.calls k a0 a1 a2 true w h).mono ?_
  rintro e w' ⟨rfl, hd⟩
  exact ⟨rfl, hd⟩

end Go.Proofs.Ytbenbabbehehnaa.PHashFronts
