/- Functions of the given program as plain Lean functions, and the proofs that the calls do so: written by a program of this session (a turned copy of the print tool). -/
import Derived.Test.YtbenbabbehehnaaPHashTurnsx0
import Derived.Test.YtbenbabbehehnaaPHashTurnsx1
namespace Go.Proofs.Ytbenbabbehehnaa.PHashTurns
open Go.RowKit Go.Proofs.YtbenbabbehehnaaW.PrintWords Go.Proofs.YtbenbabbehehnaaW.PrintLast Go.Proofs.YtbenbabbehehnaaW.PrintMore
attribute [local go_sem] max2_int min2_int max_two min_two max_three min_three max_four min_four   -- for this text's walks alone
set_option linter.unusedVariables false
set_option linter.unusedSimpArgs false

/-! ### quiltlaw06_HashTurns: function 8 -/
mutual
def quiltlaw06_HashTurns.l0 : Nat → Int → Int → Int → Int → Option (Bool)
  | 0, _, _, _, _ => none
  | k + 1, x0, x5, x6, x7 => if x7 < x5 then ((hash_Mix.f x6).bind fun t115 => (quiltlaw06_HashTurns.l0 k x0 x5 t115 (wrap64 (x7 + 1)))) else (quiltlaw06_HashTurns.l1 k x0 x5 x6 0)
def quiltlaw06_HashTurns.l1 : Nat → Int → Int → Int → Int → Option (Bool)
  | 0, _, _, _, _ => none
  | k + 1, x0, x5, x6, x8 => if x8 < x5 then ((hash_Back.f k x6).bind fun t116 => (quiltlaw06_HashTurns.l1 k x0 x5 t116 (wrap64 (x8 + 1)))) else (if x6 = x0 then ((hash_Front.f x0 32).bind fun t117 => (if t117 = (wrap64 (x0 / 4294967296)) then ((quiltlaw06_sure.f k).bind fun t118 => (some t118)) else (some false))) else (some false))
end
def quiltlaw06_HashTurns.f (k : Nat) (a0 : Int) (a1 : Int) : Option (Bool) := quiltlaw06_HashTurns.l0 k a0 (wrap64 (Int.tmod (IntKind.u64.wrap (a1)) 50)) a0 0
theorem quiltlaw06_HashTurns.mono_l : ∀ k, (∀ y0 y1 y2 y3, LeO (quiltlaw06_HashTurns.l0 k y0 y1 y2 y3) (quiltlaw06_HashTurns.l0 (k + 1) y0 y1 y2 y3)) ∧ (∀ y0 y1 y2 y3, LeO (quiltlaw06_HashTurns.l1 k y0 y1 y2 y3) (quiltlaw06_HashTurns.l1 (k + 1) y0 y1 y2 y3))
  | 0 => ⟨fun _ _ _ _ r h => by simp [quiltlaw06_HashTurns.l0] at h, fun _ _ _ _ r h => by simp [quiltlaw06_HashTurns.l1] at h⟩
  | k + 1 => by
    obtain ⟨ih0, ih1⟩ := quiltlaw06_HashTurns.mono_l k
    refine ⟨?_, ?_⟩
    · intro y0 y1 y2 y3
      unfold quiltlaw06_HashTurns.l0
      repeat' first
      | (with_reducible exact ih0 _ _ _ _)
      | (with_reducible exact ih1 _ _ _ _)
      | (with_reducible exact hash_Back.mono _ _)
      | (with_reducible exact quiltlaw06_sure.mono _)
      | (with_reducible exact LeO.refl _)
      | (with_reducible exact LeO.none _)
      | (with_reducible refine LeO.ite ?_ ?_)
      | (with_reducible refine LeO.bind ?_ (fun _ => ?_))
      | exact ih0 _ _ _ _
      | exact ih1 _ _ _ _
      | exact hash_Back.mono _ _
      | exact quiltlaw06_sure.mono _
      | exact LeO.none _
      | refine LeO.ite ?_ ?_
      | refine LeO.bind ?_ (fun _ => ?_)
    · intro y0 y1 y2 y3
      unfold quiltlaw06_HashTurns.l1
      repeat' first
      | (with_reducible exact ih0 _ _ _ _)
      | (with_reducible exact ih1 _ _ _ _)
      | (with_reducible exact hash_Back.mono _ _)
      | (with_reducible exact quiltlaw06_sure.mono _)
      | (with_reducible exact LeO.refl _)
      | (with_reducible exact LeO.none _)
      | (with_reducible refine LeO.ite ?_ ?_)
      | (with_reducible refine LeO.bind ?_ (fun _ => ?_))
      | exact ih0 _ _ _ _
      | exact ih1 _ _ _ _
      | exact hash_Back.mono _ _
      | exact quiltlaw06_sure.mono _
      | exact LeO.none _
      | refine LeO.ite ?_ ?_
      | refine LeO.bind ?_ (fun _ => ?_)
theorem quiltlaw06_HashTurns.mono : ∀ a0 a1 k, LeO (quiltlaw06_HashTurns.f k a0 a1) (quiltlaw06_HashTurns.f (k + 1) a0 a1) := by
  intro a0 a1 k
  obtain ⟨ih0, ih1⟩ := quiltlaw06_HashTurns.mono_l k
  unfold quiltlaw06_HashTurns.f
  repeat' first
      | (with_reducible exact ih0 _ _ _ _)
      | (with_reducible exact ih1 _ _ _ _)
      | (with_reducible exact hash_Back.mono _ _)
      | (with_reducible exact quiltlaw06_sure.mono _)
      | (with_reducible exact LeO.refl _)
      | (with_reducible exact LeO.none _)
      | (with_reducible refine LeO.ite ?_ ?_)
      | (with_reducible refine LeO.bind ?_ (fun _ => ?_))
      | exact ih0 _ _ _ _
      | exact ih1 _ _ _ _
      | exact hash_Back.mono _ _
      | exact quiltlaw06_sure.mono _
      | exact LeO.none _
      | refine LeO.ite ?_ ?_
      | refine LeO.bind ?_ (fun _ => ?_)
set_option maxHeartbeats 8000000 in
set_option maxRecDepth 100000 in
theorem quiltlaw06_HashTurns.calls (k : Nat) (a0 : Int) (a1 : Int) (r : Bool) (w : World) (h : quiltlaw06_HashTurns.f k a0 a1 = some r) :
    Calls Try.prog 8 #[.int .u64 a0, .int .i64 a1] w fun e w' => e = .returned (.bool r) ∧ Below w.heap.size w w' := by
  have HB := Aside0.mk (Below.refl w.heap.size w)
  have H : (quiltlaw06_HashTurns.l0 k a0 (wrap64 (Int.tmod (IntKind.u64.wrap (a1)) 50)) a0 0) = some r := h
  clear h
  have H' := Aside0.mk H
  clear H
  go_enter Try.func8, Try.ntmps8
  go_wp2
  go_loopg [6, 7] k (fun kq v6 v7 w' => ∃ (x6_1 : Int) (x7_1 : Int), v6 = .int .u64 x6_1 ∧ v7 = .int .i64 x7_1 ∧ Aside0 (quiltlaw06_HashTurns.l0 kq a0 (wrap64 (Int.tmod (IntKind.u64.wrap (a1)) 50)) x6_1 x7_1 = some r) ∧ Aside0 (kq ≤ k) ∧ Aside0 (Below w.heap.size w w'))
  case atStart => exact ⟨(a0), (0), (by first | rfl | (simp; done) | (simp [*]; done)), (by first | rfl | (simp; done) | (simp [*]; done)), H', ⟨Nat.le_refl _⟩, ⟨by repeat (first | (with_reducible first | exact HB.out | apply below_alloc | apply pw_below_drewN | apply below_drew1) | exact HB.out)⟩⟩
  case round =>
    clear H'
    try clear p2
    obtain ⟨x6_1, x7_1, rfl, rfl, HA, HK1, HB⟩ := hrel
    cases gk with
    | zero => exact absurd HA.out (by simp [quiltlaw06_HashTurns.l0])
    | succ k1 =>
      have H := HA.out
      clear HA
      simp only [quiltlaw06_HashTurns.l0] at H
      by_cases c3 : x7_1 < (wrap64 (Int.tmod (IntKind.u64.wrap (a1)) 50))
      · rw [if_pos c3] at H
        have c3b0 : decide (x7_1 < (wrap64 (Int.tmod (IntKind.u64.wrap (a1)) 50))) = true := decide_eq_true c3
        clear c3
        replace H := Option.bind_eq_some_iff.mp H
        obtain ⟨t115, A40, H⟩ := H
        replace H : (quiltlaw06_HashTurns.l0 k1 a0 (wrap64 (Int.tmod (IntKind.u64.wrap (a1)) 50)) t115 (wrap64 (x7_1 + 1))) = some r := H
        have A4 := Aside0.mk A40
        clear A40
        have H' := Aside0.mk H
        clear H
        go_wp2_with (first | ((with_reducible refine gate_callee (f := 10) rfl ?_); refine goesL_ (some 20) rfl rfl Try.func10 (by kernel_rfl) rfl #[.int .u64 x6_1] rfl (by (try simp only [List.map_toArray, List.map_cons, List.map_nil]); first | done | rfl | (simp only [List.length_drop, List.length_take]; rfl)) ?_; (with_reducible refine (hash_Mix.calls x6_1 t115 _ A4.out).mono ?_); rintro e w' ⟨rfl, ⟨nd, rfl⟩⟩; refine ⟨_, rfl, ?_⟩))
        go_roundg k1
        case measure => have := HK1.out; omega
        case rel => exact ⟨(t115), (wrap64 (x7_1 + 1)), (by first | rfl | (simp; done) | (simp [*]; done)), (by first | rfl | (simp; done) | (simp [*]; done)), H', ⟨by have := HK1.out; omega⟩, ⟨by repeat (first | (with_reducible first | exact HB.out | apply below_alloc | apply pw_below_drewN | apply below_drew1) | exact HB.out)⟩⟩
      · rw [if_neg c3] at H
        have c3b0 : decide (x7_1 < (wrap64 (Int.tmod (IntKind.u64.wrap (a1)) 50))) = false := decide_eq_false c3
        clear c3
        have H' := Aside0.mk H
        clear H
        go_wp2
        go_loopg [6, 8] k1 (fun kq v6 v8 w' => ∃ (x6_2 : Int) (x8_2 : Int), v6 = .int .u64 x6_2 ∧ v8 = .int .i64 x8_2 ∧ Aside0 (quiltlaw06_HashTurns.l1 kq a0 (wrap64 (Int.tmod (IntKind.u64.wrap (a1)) 50)) x6_2 x8_2 = some r) ∧ Aside0 (kq ≤ k1) ∧ Aside0 (Below w.heap.size w w'))
        case atStart => exact ⟨(x6_1), (0), (by first | rfl | (simp; done) | (simp [*]; done)), (by first | rfl | (simp; done) | (simp [*]; done)), H', ⟨Nat.le_refl _⟩, ⟨by repeat (first | (with_reducible first | exact HB.out | apply below_alloc | apply pw_below_drewN | apply below_drew1) | exact HB.out)⟩⟩
        case round =>
          clear H'
          try clear c1
          try clear p2
          try clear c3
          try clear c3b0
          try clear p2
          obtain ⟨x6_2, x8_2, rfl, rfl, HA, HK2, HB⟩ := hrel
          cases gk with
          | zero => exact absurd HA.out (by simp [quiltlaw06_HashTurns.l1])
          | succ k2 =>
            have H := HA.out
            clear HA
            simp only [quiltlaw06_HashTurns.l1] at H
            by_cases c5 : x8_2 < (wrap64 (Int.tmod (IntKind.u64.wrap (a1)) 50))
            · rw [if_pos c5] at H
              have c5b0 : decide (x8_2 < (wrap64 (Int.tmod (IntKind.u64.wrap (a1)) 50))) = true := decide_eq_true c5
              clear c5
              replace H := Option.bind_eq_some_iff.mp H
              obtain ⟨t116, A60, H⟩ := H
              replace H : (quiltlaw06_HashTurns.l1 k2 a0 (wrap64 (Int.tmod (IntKind.u64.wrap (a1)) 50)) t116 (wrap64 (x8_2 + 1))) = some r := H
              have A6 := Aside0.mk A60
              clear A60
              have H' := Aside0.mk H
              clear H
              go_wp2_with (first | ((with_reducible refine gate_callee (f := 16) rfl ?_); refine goesL_ (some 27) rfl rfl Try.func16 (by kernel_rfl) rfl #[.int .u64 x6_2] rfl (by (try simp only [List.map_toArray, List.map_cons, List.map_nil]); first | done | rfl | (simp only [List.length_drop, List.length_take]; rfl)) ?_; (with_reducible refine (hash_Back.calls k2 x6_2 t116 _ A6.out).mono ?_); rintro e w' ⟨rfl, ⟨nd, rfl⟩⟩; refine ⟨_, rfl, ?_⟩))
              go_roundg k2
              case measure => have := HK1.out; have := HK2.out; omega
              case rel => exact ⟨(t116), (wrap64 (x8_2 + 1)), (by first | rfl | (simp; done) | (simp [*]; done)), (by first | rfl | (simp; done) | (simp [*]; done)), H', ⟨by have := HK1.out; have := HK2.out; omega⟩, ⟨by repeat (first | (with_reducible first | exact HB.out | apply below_alloc | apply pw_below_drewN | apply below_drew1) | exact HB.out)⟩⟩
            · rw [if_neg c5] at H
              have c5b0 : decide (x8_2 < (wrap64 (Int.tmod (IntKind.u64.wrap (a1)) 50))) = false := decide_eq_false c5
              clear c5
              by_cases c7 : x6_2 = a0
              · rw [if_pos c7] at H
                have c7b0 : (x6_2 == a0) = true := beq_iff_eq.mpr c7
                have c7b1 : (x6_2 != a0) = false := bne_eq_false_iff_eq.mpr c7
                clear c7
                replace H := Option.bind_eq_some_iff.mp H
                obtain ⟨t117, A80, H⟩ := H
                replace H : (if t117 = (wrap64 (a0 / 4294967296)) then ((quiltlaw06_sure.f k2).bind fun t118 => (some t118)) else (some false)) = some r := H
                have A8 := Aside0.mk A80
                clear A80
                by_cases c9 : t117 = (wrap64 (a0 / 4294967296))
                · rw [if_pos c9] at H
                  have c9b0 : (t117 == (wrap64 (a0 / 4294967296))) = true := beq_iff_eq.mpr c9
                  have c9b1 : (t117 != (wrap64 (a0 / 4294967296))) = false := bne_eq_false_iff_eq.mpr c9
                  clear c9
                  replace H := Option.bind_eq_some_iff.mp H
                  obtain ⟨t118, A100, H⟩ := H
                  replace H : (some t118) = some r := H
                  have A10 := Aside0.mk A100
                  clear A100
                  obtain rfl := Option.some.inj H
                  go_wp2_with (first | (go_at_call 14; (with_reducible refine (hash_Front.calls a0 32 t117 _ A8.out).mono ?_); rintro e w11 ⟨rfl, hb⟩; have n0_ := Aside0.mk (below_step (by repeat (first | (with_reducible first | exact HB.out | apply below_alloc | apply pw_below_drewN | apply below_drew1) | exact HB.out)) hb); clear HB; have HB := n0_; clear n0_; (try clear hb); (try clear hb2); (try clear hk); (try clear hi)) | (go_at_call 9; (with_reducible refine (quiltlaw06_sure.calls k2  t118 _ A10.out).mono ?_); rintro e w12 ⟨rfl, hb⟩; have n0_ := Aside0.mk (below_step (by repeat (first | (with_reducible first | exact HB.out | apply below_alloc | apply pw_below_drewN | apply below_drew1) | exact HB.out)) hb); clear HB; have HB := n0_; clear n0_; (try clear hb); (try clear hb2); (try clear hk); (try clear hi)))
                  go_ret
                  exact ⟨by first | rfl | (simp [errW_none, errW_some] <;> rfl) | (simp [*, errW_none, errW_some] <;> rfl), by repeat (first | (with_reducible first | exact HB.out | apply below_alloc | apply pw_below_drewN | apply below_drew1) | exact HB.out)⟩
                · rw [if_neg c9] at H
                  have c9b0 : (t117 == (wrap64 (a0 / 4294967296))) = false := beq_eq_false_iff_ne.mpr c9
                  have c9b1 : (t117 != (wrap64 (a0 / 4294967296))) = true := bne_iff_ne.mpr c9
                  obtain rfl := Option.some.inj H
                  go_wp2_with (first | (go_at_call 14; (with_reducible refine (hash_Front.calls a0 32 t117 _ A8.out).mono ?_); rintro e w13 ⟨rfl, hb⟩; have n0_ := Aside0.mk (below_step (by repeat (first | (with_reducible first | exact HB.out | apply below_alloc | apply pw_below_drewN | apply below_drew1) | exact HB.out)) hb); clear HB; have HB := n0_; clear n0_; (try clear hb); (try clear hb2); (try clear hk); (try clear hi)))
                  go_ret
                  exact ⟨by first | rfl | (simp [errW_none, errW_some] <;> rfl) | (simp [*, errW_none, errW_some] <;> rfl), by repeat (first | (with_reducible first | exact HB.out | apply below_alloc | apply pw_below_drewN | apply below_drew1) | exact HB.out)⟩
              · rw [if_neg c7] at H
                have c7b0 : (x6_2 == a0) = false := beq_eq_false_iff_ne.mpr c7
                have c7b1 : (x6_2 != a0) = true := bne_iff_ne.mpr c7
                obtain rfl := Option.some.inj H
                go_wp2
                go_ret
                exact ⟨by first | rfl | (simp [errW_none, errW_some] <;> rfl) | (simp [*, errW_none, errW_some] <;> rfl), by repeat (first | (with_reducible first | exact HB.out | apply below_alloc | apply pw_below_drewN | apply below_drew1) | exact HB.out)⟩

/-- THE ONE PURE STATEMENT of quiltlaw06_HashTurns: yours. -/
def quiltlaw06_HashTurns.Pure : Prop := ∀ (a0 : Int) (a1 : Int), (Lit.int .u64 a0).wf = true → (Lit.int .i64 a1).wf = true → ∃ k, quiltlaw06_HashTurns.f k a0 a1 = some true
theorem quiltlaw06_HashTurns.walk (P : quiltlaw06_HashTurns.Pure) (a0 : Int) (a1 : Int) (w : World) (w0 : (Lit.int .u64 a0).wf = true) (w1 : (Lit.int .i64 a1).wf = true) :
    Calls Try.prog 8 #[.int .u64 a0, .int .i64 a1] w fun e w' => e = .returned (.bool true) ∧ Below w.heap.size w w' := by
  obtain ⟨k, h⟩ := P a0 a1 w0 w1
  refine (quiltlaw06_HashTurns.calls k a0 a1 true w h).mono ?_
  rintro e w' ⟨rfl, hd⟩
  exact ⟨rfl, hd⟩

end Go.Proofs.Ytbenbabbehehnaa.PHashTurns
