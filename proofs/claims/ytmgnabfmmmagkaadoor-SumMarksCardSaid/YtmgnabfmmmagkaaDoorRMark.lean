/-
  The walk of the reference's Mark, at this seat's numbers.
-/
import Derived.Test.YtmgnabfmmmagkaaDoorSumE
set_option linter.unusedVariables false
set_option linter.unusedSimpArgs false
namespace Go.Proofs.YtmgnabfmmmagkaaDoor
open Go Go.RowKit Crc

theorem rmark_short (a : Option Addr) (n cap : Nat) (xs : List Int) (w : World) (hr : ReadsB w a n cap xs) (h : n < 4) :
    Calls Tryd.prog 17 #[.slice a n cap] w fun e w' => e = .returned (.tuple #[.slice none 0 0, .int .i64 1]) ∧ w = w' := by
  have hn := hr.bound
  clear hr
  go_enter Tryd.func17, Tryd.ntmps17
  go_wp2
  go_ret2
  exact ⟨rfl, rfl⟩
def digs (s : Int) (k : Nat) : List Int := (List.range k).map fun j => s / 256 ^ j % 256
theorem digs_zero (s : Int) : digs s 0 = [] := rfl
theorem digs_succ (s : Int) (k : Nat) : digs s (k + 1) = digs s k ++ [s / 256 ^ k % 256] := by
  unfold digs; rw [List.range_succ, List.map_append]; rfl
theorem digs_length (s : Int) (k : Nat) : (digs s k).length = k := by simp [digs]
theorem digs_four (s : BitVec 32) : digs (reg32 s) 4 = sumL s := by
  unfold digs sumL
  have := u32_hi s
  have := u32_lo s
  simp [List.range_succ]
  omega
theorem pow256 (s : Int) (k : Nat) : s / 256 ^ k / 256 = s / 256 ^ (k + 1) := by
  rw [Int.pow_succ, Int.ediv_ediv_of_nonneg (by exact Int.pow_nonneg (by decide))]
theorem one_byte (x : Int) (h : Byte x) : IsBytes [x] := by intro c hc; simp at hc; subst hc; exact h
set_option maxHeartbeats 2000000 in
theorem rmark_any (a : Option Addr) (n cap : Nat) (xs : List Int) (w : World) (hr : ReadsB w a n cap xs) (h : 4 ≤ n) :
    Calls Tryd.prog 17 #[.slice a n cap] w fun e w' => ∃ v, e = .returned (.tuple #[v, .int .i64 0]) ∧ OwnB w' w.heap.size v (markL xs) ∧ Below w.heap.size w w' := by
  obtain ⟨b, off, rfl, _⟩ := hr.addr (by omega)
  have hn := hr.bound
  have hcap := hr.fits
  have hcap2 := hr.room
  obtain ⟨m, rfl⟩ : ∃ m, n = m + 4 := ⟨n - 4, by omega⟩
  have HR := Lib.hid (hr.take (show m ≤ m + 4 by omega))
  have HL := Lib.hid hr.len
  have HTL : Hid ((xs.take m).length = m) := Lib.hid (by rw [List.length_take, HL.out]; omega)
  clear hr h
  go_enter Tryd.func17, Tryd.ntmps17
  have hs0 := u32_lo (sumOf (xs.take m))
  have hs1 := u32_hi (sumOf (xs.take m))
  have hs0' := Lib.hid hs0
  have hs1' := Lib.hid hs1
  clear hs0 hs1
  obtain ⟨S, hS⟩ : ∃ S, S = reg32 (sumOf (xs.take m)) := ⟨_, rfl⟩
  have HS := Lib.hid hS
  rw [← hS] at hs0' hs1'
  clear hS
  go_wp2_with (first | (go_at_call 14; refine Calls.mono (rmore_any 0#32 _ _ _ (xs.take m) _ HR.out) ?_; rintro e w' ⟨rfl, rfl⟩; rw [show reg32 (sumMore 0#32 (xs.take m)) = S from HS.out.symm]) | (at_builtin; refine wpList_append_bytes rfl _ _ rfl w.heap.size (.slice none 0 0) [] rfl (own_nil _ _) _ m cap (xs.take m) rfl HR.out (by simp; omega) (Nat.le_refl _) ?_; intro v1 w1 ho hg; rw [List.nil_append] at ho; have HB1 := Lib.hid ((Below.refl w.heap.size w).grown hg (Nat.le_refl _) (fun k hk => own_base (own_nil w _) k hk)); have HO1 := Lib.hid ho; clear ho hg))
  go_loopw [5, 6, 7] (fun s v i wr => ∃ k : Nat, k ≤ 4 ∧ i = .int .i64 k ∧ s = .int .u32 (S / 256 ^ k) ∧ OwnB wr w.heap.size v (xs.take m ++ digs S k) ∧ Below w.heap.size w wr) (fun _ _ i _ => 4 - (intOf i).toNat)
  case atStart => exact ⟨0, by omega, rfl, by rw [show S / 256 ^ 0 = S by simp], by rw [digs_zero, List.append_nil]; exact HO1.out, HB1.out⟩
  case round =>
    obtain ⟨k, hk, rfl, rfl, ho, hB⟩ := hrel
    have HO := Lib.hid ho
    have HB := Lib.hid hB
    clear ho hB
    have HD := Lib.hid (digs_succ S k)
    have HP := Lib.hid (pow256 S k)
    have HN : Hid ((xs.take m ++ digs S k).length = m + k) := Lib.hid (by rw [List.length_append, HTL.out, digs_length])
    have t0 : 0 ≤ S / 256 ^ k := Int.ediv_nonneg hs0'.out (Int.pow_nonneg (by decide))
    have t1 : S / 256 ^ k ≤ 4294967295 := by
      have := hs1'.out
      have h2 : S / 256 ^ k ≤ S := Int.ediv_le_self _ hs0'.out
      omega
    generalize hX : S / 256 ^ k = X at *
    clear hX
    by_cases hlt : k < 4
    · go_wp2_with (at_builtin; refine wpList_append_bytes rfl _ _ rfl w.heap.size _ (xs.take m ++ digs S k) rfl ((HO.out).below ((Below.refl _ _).alloc (Nat.le_refl _) _)) _ 1 1 [X % 256] rfl (built_reads _ _ _ [X % 256] rfl (one_byte _ ⟨by omega, by omega⟩) (by simp)) (by rw [HN.out]; omega) (by have := HB.out.size; simp; omega) ?_; intro v2 w2 ho hg; have HB2 := Lib.hid ((HB.out.alloc HB.out.size _).grown hg (by have := HB.out.size; simp; omega) (fun k hk => own_base (HO.out) k hk)); have HO2 := Lib.hid ho; clear ho hg)
      go_roundw
      case rel => exact ⟨k + 1, by omega, by go_num, by rw [HP.out], by rw [HD.out, ← List.append_assoc]; exact HO2.out, HB2.out⟩
      case measure => simp [intOf]; omega
    · obtain rfl : k = 4 := by omega
      go_wp2
      go_ret2
      refine ⟨_, rfl, ?_, HB.out⟩
      have := HO.out
      rw [HS.out, digs_four, sumL_eq] at this
      unfold markL
      rw [HL.out]
      exact this
end Go.Proofs.YtmgnabfmmmagkaaDoor
