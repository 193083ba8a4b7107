/- Functions of the given program as plain Lean functions, and the proofs that the calls do so: written by a program of this session (a turned copy of the print tool). -/
import Derived.Test.YtbenbabbehehnaaPHashBackx0
import Derived.Test.YtbenbabbehehnaaPHashBackx1
namespace Go.Proofs.Ytbenbabbehehnaa.PHashBack
open Go.RowKit Go.Proofs.YtbenbabbehehnaaW.PrintWords Go.Proofs.YtbenbabbehehnaaW.PrintLast Go.Proofs.YtbenbabbehehnaaW.PrintMore
attribute [local go_sem] max2_int min2_int max_two min_two max_three min_three max_four min_four   -- for this text's walks alone
set_option linter.unusedVariables false
set_option linter.unusedSimpArgs false

/-! ### quiltlaw06_HashBack: function 4 -/
def quiltlaw06_HashBack.f (k : Nat) (a0 : Int) (a1 : Int) : Option (Bool) := (hash_Mix.f a0).bind fun t115 => ((hash_Back.f k t115).bind fun t116 => (if t116 = a0 then ((hash_Back.f k a0).bind fun t117 => ((hash_Mix.f t117).bind fun t118 => (if t118 = a0 then ((hash_Mix.f a0).bind fun t119 => ((hash_Mix.f a1).bind fun t120 => (if ((t119 == t120) == (a0 == a1)) = true then ((quiltlaw06_sure.f k).bind fun t121 => (some t121)) else (some false)))) else (some false)))) else (some false)))
theorem quiltlaw06_HashBack.mono : ∀ a0 a1 k, LeO (quiltlaw06_HashBack.f k a0 a1) (quiltlaw06_HashBack.f (k + 1) a0 a1) := by
  intro a0 a1 k
  unfold quiltlaw06_HashBack.f
  repeat' first
      | (with_reducible exact hash_Back.mono _ _)
      | (with_reducible exact quiltlaw06_sure.mono _)
      | (with_reducible exact LeO.refl _)
      | (with_reducible exact LeO.none _)
      | (with_reducible refine LeO.ite ?_ ?_)
      | (with_reducible refine LeO.bind ?_ (fun _ => ?_))
      | exact hash_Back.mono _ _
      | exact quiltlaw06_sure.mono _
      | exact LeO.none _
      | refine LeO.ite ?_ ?_
      | refine LeO.bind ?_ (fun _ => ?_)
set_option maxHeartbeats 8000000 in
set_option maxRecDepth 100000 in
theorem quiltlaw06_HashBack.calls (k : Nat) (a0 : Int) (a1 : Int) (r : Bool) (w : World) (h : quiltlaw06_HashBack.f k a0 a1 = some r) :
    Calls Try.prog 4 #[.int .u64 a0, .int .u64 a1] w fun e w' => e = .returned (.bool r) ∧ Below w.heap.size w w' := by
  have HB := Aside0.mk (Below.refl w.heap.size w)
  have H : ((hash_Mix.f a0).bind fun t115 => ((hash_Back.f k t115).bind fun t116 => (if t116 = a0 then ((hash_Back.f k a0).bind fun t117 => ((hash_Mix.f t117).bind fun t118 => (if t118 = a0 then ((hash_Mix.f a0).bind fun t119 => ((hash_Mix.f a1).bind fun t120 => (if ((t119 == t120) == (a0 == a1)) = true then ((quiltlaw06_sure.f k).bind fun t121 => (some t121)) else (some false)))) else (some false)))) else (some false)))) = some r := h
  clear h
  replace H := Option.bind_eq_some_iff.mp H
  obtain ⟨t115, A30, H⟩ := H
  replace H : ((hash_Back.f k t115).bind fun t116 => (if t116 = a0 then ((hash_Back.f k a0).bind fun t117 => ((hash_Mix.f t117).bind fun t118 => (if t118 = a0 then ((hash_Mix.f a0).bind fun t119 => ((hash_Mix.f a1).bind fun t120 => (if ((t119 == t120) == (a0 == a1)) = true then ((quiltlaw06_sure.f k).bind fun t121 => (some t121)) else (some false)))) else (some false)))) else (some false))) = some r := H
  have A3 := Aside0.mk A30
  clear A30
  replace H := Option.bind_eq_some_iff.mp H
  obtain ⟨t116, A40, H⟩ := H
  replace H : (if t116 = a0 then ((hash_Back.f k a0).bind fun t117 => ((hash_Mix.f t117).bind fun t118 => (if t118 = a0 then ((hash_Mix.f a0).bind fun t119 => ((hash_Mix.f a1).bind fun t120 => (if ((t119 == t120) == (a0 == a1)) = true then ((quiltlaw06_sure.f k).bind fun t121 => (some t121)) else (some false)))) else (some false)))) else (some false)) = some r := H
  have A4 := Aside0.mk A40
  clear A40
  by_cases c5 : t116 = a0
  · rw [if_pos c5] at H
    have c5b0 : (t116 == a0) = true := beq_iff_eq.mpr c5
    have c5b1 : (t116 != a0) = false := bne_eq_false_iff_eq.mpr c5
    clear c5
    replace H := Option.bind_eq_some_iff.mp H
    obtain ⟨t117, A60, H⟩ := H
    replace H : ((hash_Mix.f t117).bind fun t118 => (if t118 = a0 then ((hash_Mix.f a0).bind fun t119 => ((hash_Mix.f a1).bind fun t120 => (if ((t119 == t120) == (a0 == a1)) = true then ((quiltlaw06_sure.f k).bind fun t121 => (some t121)) else (some false)))) else (some false))) = some r := H
    have A6 := Aside0.mk A60
    clear A60
    replace H := Option.bind_eq_some_iff.mp H
    obtain ⟨t118, A70, H⟩ := H
    replace H : (if t118 = a0 then ((hash_Mix.f a0).bind fun t119 => ((hash_Mix.f a1).bind fun t120 => (if ((t119 == t120) == (a0 == a1)) = true then ((quiltlaw06_sure.f k).bind fun t121 => (some t121)) else (some false)))) else (some false)) = some r := H
    have A7 := Aside0.mk A70
    clear A70
    by_cases c8 : t118 = a0
    · rw [if_pos c8] at H
      have c8b0 : (t118 == a0) = true := beq_iff_eq.mpr c8
      have c8b1 : (t118 != a0) = false := bne_eq_false_iff_eq.mpr c8
      clear c8
      replace H := Option.bind_eq_some_iff.mp H
      obtain ⟨t119, A90, H⟩ := H
      replace H : ((hash_Mix.f a1).bind fun t120 => (if ((t119 == t120) == (a0 == a1)) = true then ((quiltlaw06_sure.f k).bind fun t121 => (some t121)) else (some false))) = some r := H
      have A9 := Aside0.mk A90
      clear A90
      replace H := Option.bind_eq_some_iff.mp H
      obtain ⟨t120, A100, H⟩ := H
      replace H : (if ((t119 == t120) == (a0 == a1)) = true then ((quiltlaw06_sure.f k).bind fun t121 => (some t121)) else (some false)) = some r := H
      have A10 := Aside0.mk A100
      clear A100
      by_cases c11 : ((t119 == t120) == (a0 == a1)) = true
      · rw [if_pos c11] at H
        have c11b0 : ((t119 == t120) == (a0 == a1)) = true := c11
        (try (have c11b1 : decide ((t119 == t120) = (a0 == a1)) = true := by simpa using c11))
        (try (have c11b2 : ((t119 == t120) == (a0 == a1)) = true := by simpa using c11))
        clear c11
        replace H := Option.bind_eq_some_iff.mp H
        obtain ⟨t121, A120, H⟩ := H
        replace H : (some t121) = some r := H
        have A12 := Aside0.mk A120
        clear A120
        obtain rfl := Option.some.inj H
        go_enter Try.func4, Try.ntmps4
        go_wp2_with (first | ((with_reducible refine gate_callee (f := 10) rfl ?_); refine goesL_ (some 6) rfl rfl Try.func10 (by kernel_rfl) rfl #[.int .u64 a0] rfl (by (try simp only [List.map_toArray, List.map_cons, List.map_nil]); first | done | rfl | (simp only [List.length_drop, List.length_take]; rfl)) ?_; (with_reducible refine (hash_Mix.calls a0 t115 _ A3.out).mono ?_); rintro e w' ⟨rfl, ⟨nd, rfl⟩⟩; refine ⟨_, rfl, ?_⟩) | ((with_reducible refine gate_callee (f := 16) rfl ?_); refine goesL_ (some 7) rfl rfl Try.func16 (by kernel_rfl) rfl #[.int .u64 t115] rfl (by (try simp only [List.map_toArray, List.map_cons, List.map_nil]); first | done | rfl | (simp only [List.length_drop, List.length_take]; rfl)) ?_; (with_reducible refine (hash_Back.calls k t115 t116 _ A4.out).mono ?_); rintro e w' ⟨rfl, ⟨nd, rfl⟩⟩; refine ⟨_, rfl, ?_⟩) | (go_at_call 16; (with_reducible refine (hash_Back.calls k a0 t117 _ A6.out).mono ?_); rintro e w' ⟨rfl, ⟨nd, rfl⟩⟩) | (go_at_call 10; (with_reducible refine (hash_Mix.calls t117 t118 _ A7.out).mono ?_); rintro e w' ⟨rfl, ⟨nd, rfl⟩⟩) | (go_at_call 10; (with_reducible refine (hash_Mix.calls a0 t119 _ A9.out).mono ?_); rintro e w' ⟨rfl, ⟨nd, rfl⟩⟩) | (go_at_call 10; (with_reducible refine (hash_Mix.calls a1 t120 _ A10.out).mono ?_); rintro e w' ⟨rfl, ⟨nd, rfl⟩⟩) | (go_at_call 9; (with_reducible refine (quiltlaw06_sure.calls k  t121 _ A12.out).mono ?_); rintro e w13 ⟨rfl, hb⟩; have n0_ := Aside0.mk (below_step (by repeat (first | (with_reducible first | exact HB.out | apply below_alloc | apply pw_below_drewN | apply below_drew1) | exact HB.out)) hb); clear HB; have HB := n0_; clear n0_; (try clear hb); (try clear hb2); (try clear hk); (try clear hi)))
        go_ret
        exact ⟨by first | rfl | (simp [errW_none, errW_some] <;> rfl) | (simp [*, errW_none, errW_some] <;> rfl), by repeat (first | (with_reducible first | exact HB.out | apply below_alloc | apply pw_below_drewN | apply below_drew1) | exact HB.out)⟩
      · rw [if_neg c11] at H
        have c11b0 : ((t119 == t120) == (a0 == a1)) = false := by simpa using c11
        (try (have c11b1 : decide ((t119 == t120) = (a0 == a1)) = false := by simpa using c11))
        (try (have c11b2 : ((t119 == t120) == (a0 == a1)) = false := by simpa using c11))
        (try (have c11b3 : ¬ ((t119 == t120) = (a0 == a1)) := by simpa using c11))
        clear c11
        obtain rfl := Option.some.inj H
        go_enter Try.func4, Try.ntmps4
        go_wp2_with (first | ((with_reducible refine gate_callee (f := 10) rfl ?_); refine goesL_ (some 6) rfl rfl Try.func10 (by kernel_rfl) rfl #[.int .u64 a0] rfl (by (try simp only [List.map_toArray, List.map_cons, List.map_nil]); first | done | rfl | (simp only [List.length_drop, List.length_take]; rfl)) ?_; (with_reducible refine (hash_Mix.calls a0 t115 _ A3.out).mono ?_); rintro e w' ⟨rfl, ⟨nd, rfl⟩⟩; refine ⟨_, rfl, ?_⟩) | ((with_reducible refine gate_callee (f := 16) rfl ?_); refine goesL_ (some 7) rfl rfl Try.func16 (by kernel_rfl) rfl #[.int .u64 t115] rfl (by (try simp only [List.map_toArray, List.map_cons, List.map_nil]); first | done | rfl | (simp only [List.length_drop, List.length_take]; rfl)) ?_; (with_reducible refine (hash_Back.calls k t115 t116 _ A4.out).mono ?_); rintro e w' ⟨rfl, ⟨nd, rfl⟩⟩; refine ⟨_, rfl, ?_⟩) | (go_at_call 16; (with_reducible refine (hash_Back.calls k a0 t117 _ A6.out).mono ?_); rintro e w' ⟨rfl, ⟨nd, rfl⟩⟩) | (go_at_call 10; (with_reducible refine (hash_Mix.calls t117 t118 _ A7.out).mono ?_); rintro e w' ⟨rfl, ⟨nd, rfl⟩⟩) | (go_at_call 10; (with_reducible refine (hash_Mix.calls a0 t119 _ A9.out).mono ?_); rintro e w' ⟨rfl, ⟨nd, rfl⟩⟩) | (go_at_call 10; (with_reducible refine (hash_Mix.calls a1 t120 _ A10.out).mono ?_); rintro e w' ⟨rfl, ⟨nd, rfl⟩⟩))
        go_ret
        exact ⟨by first | rfl | (simp [errW_none, errW_some] <;> rfl) | (simp [*, errW_none, errW_some] <;> rfl), by repeat (first | (with_reducible first | exact HB.out | apply below_alloc | apply pw_below_drewN | apply below_drew1) | exact HB.out)⟩
    · rw [if_neg c8] at H
      have c8b0 : (t118 == a0) = false := beq_eq_false_iff_ne.mpr c8
      have c8b1 : (t118 != a0) = true := bne_iff_ne.mpr c8
      obtain rfl := Option.some.inj H
      go_enter Try.func4, Try.ntmps4
      go_wp2_with (first | ((with_reducible refine gate_callee (f := 10) rfl ?_); refine goesL_ (some 6) rfl rfl Try.func10 (by kernel_rfl) rfl #[.int .u64 a0] rfl (by (try simp only [List.map_toArray, List.map_cons, List.map_nil]); first | done | rfl | (simp only [List.length_drop, List.length_take]; rfl)) ?_; (with_reducible refine (hash_Mix.calls a0 t115 _ A3.out).mono ?_); rintro e w' ⟨rfl, ⟨nd, rfl⟩⟩; refine ⟨_, rfl, ?_⟩) | ((with_reducible refine gate_callee (f := 16) rfl ?_); refine goesL_ (some 7) rfl rfl Try.func16 (by kernel_rfl) rfl #[.int .u64 t115] rfl (by (try simp only [List.map_toArray, List.map_cons, List.map_nil]); first | done | rfl | (simp only [List.length_drop, List.length_take]; rfl)) ?_; (with_reducible refine (hash_Back.calls k t115 t116 _ A4.out).mono ?_); rintro e w' ⟨rfl, ⟨nd, rfl⟩⟩; refine ⟨_, rfl, ?_⟩) | (go_at_call 16; (with_reducible refine (hash_Back.calls k a0 t117 _ A6.out).mono ?_); rintro e w' ⟨rfl, ⟨nd, rfl⟩⟩) | (go_at_call 10; (with_reducible refine (hash_Mix.calls t117 t118 _ A7.out).mono ?_); rintro e w' ⟨rfl, ⟨nd, rfl⟩⟩))
      go_ret
      exact ⟨by first | rfl | (simp [errW_none, errW_some] <;> rfl) | (simp [*, errW_none, errW_some] <;> rfl), by repeat (first | (with_reducible first | exact HB.out | apply below_alloc | apply pw_below_drewN | apply below_drew1) | exact HB.out)⟩
  · rw [if_neg c5] at H
    have c5b0 : (t116 == a0) = false := beq_eq_false_iff_ne.mpr c5
    have c5b1 : (t116 != a0) = true := bne_iff_ne.mpr c5
    obtain rfl := Option.some.inj H
    go_enter Try.func4, Try.ntmps4
    go_wp2_with (first | ((with_reducible refine gate_callee (f := 10) rfl ?_); refine goesL_ (some 6) rfl rfl Try.func10 (by kernel_rfl) rfl #[.int .u64 a0] rfl (by (try simp only [List.map_toArray, List.map_cons, List.map_nil]); first | done | rfl | (simp only [List.length_drop, List.length_take]; rfl)) ?_; (with_reducible refine (hash_Mix.calls a0 t115 _ A3.out).mono ?_); rintro e w' ⟨rfl, ⟨nd, rfl⟩⟩; refine ⟨_, rfl, ?_⟩) | ((with_reducible refine gate_callee (f := 16) rfl ?_); refine goesL_ (some 7) rfl rfl Try.func16 (by kernel_rfl) rfl #[.int .u64 t115] rfl (by (try simp only [List.map_toArray, List.map_cons, List.map_nil]); first | done | rfl | (simp only [List.length_drop, List.length_take]; rfl)) ?_; (with_reducible refine (hash_Back.calls k t115 t116 _ A4.out).mono ?_); rintro e w' ⟨rfl, ⟨nd, rfl⟩⟩; refine ⟨_, rfl, ?_⟩))
    go_ret
    exact ⟨by first | rfl | (simp [errW_none, errW_some] <;> rfl) | (simp [*, errW_none, errW_some] <;> rfl), by repeat (first | (with_reducible first | exact HB.out | apply below_alloc | apply pw_below_drewN | apply below_drew1) | exact HB.out)⟩

/-- THE ONE PURE STATEMENT of quiltlaw06_HashBack: yours. -/
def quiltlaw06_HashBack.Pure : Prop := ∀ (a0 : Int) (a1 : Int), (Lit.int .u64 a0).wf = true → (Lit.int .u64 a1).wf = true → ∃ k, quiltlaw06_HashBack.f k a0 a1 = some true
theorem quiltlaw06_HashBack.walk (P : quiltlaw06_HashBack.Pure) (a0 : Int) (a1 : Int) (w : World) (w0 : (Lit.int .u64 a0).wf = true) (w1 : (Lit.int .u64 a1).wf = true) :
    Calls Try.prog 4 #[.int .u64 a0, .int .u64 a1] w fun e w' => e = .returned (.bool true) ∧ Below w.heap.size w w' := by
  obtain ⟨k, h⟩ := P a0 a1 w0 w1
  refine (quiltlaw06_HashBack.calls k a0 a1 true w h).mono ?_
  rintro e w' ⟨rfl, hd⟩
  exact ⟨rfl, hd⟩

end Go.Proofs.Ytbenbabbehehnaa.PHashBack
