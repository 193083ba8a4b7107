/-
  The walks of the reference's More and Mark, at this seat's numbers.
-/
import Derived.Test.YtmgnabfmmmagkaaDoorSumD
set_option linter.unusedVariables false
set_option linter.unusedSimpArgs false
namespace Go.Proofs.YtmgnabfmmmagkaaDoor
open Go Go.RowKit Crc

theorem sub_all (x : BitVec 32) : 4294967295 - reg32 x = reg32 (notb x) := by
  unfold reg32 notb
  rw [BitVec.toNat_not]
  have := x.isLt
  omega
def told (x : BitVec 32) (c : Int) : Bool := reg32 x % 2 != c % 2
theorem ofInt_half (c : Int) (h : 0 ≤ c) (h1 : c < 4294967296) : BitVec.ofInt 32 (c / 2) = BitVec.ofInt 32 c >>> 1 := by
  obtain ⟨n, rfl⟩ := Int.eq_ofNat_of_zero_le h
  apply BitVec.eq_of_toNat_eq
  rw [show (n : Int) / 2 = ((n / 2 : Nat) : Int) by omega, BitVec.ofInt_natCast, BitVec.ofInt_natCast, BitVec.toNat_ushiftRight, BitVec.toNat_ofNat, BitVec.toNat_ofNat, Nat.shiftRight_eq_div_pow]
  omega
theorem lsb_u32 (x : BitVec 32) : x.getLsbD 0 = decide (reg32 x % 2 = 1) := by
  rw [BitVec.getLsbD, Nat.testBit_zero]
  unfold reg32
  rw [Bool.eq_iff_iff, decide_eq_true_eq, decide_eq_true_eq]
  omega
theorem step_ref (x : BitVec 32) (c : Int) (h : 0 ≤ c) (h1 : c < 4294967296) : ((x >>> 1) ^^^ (if told x c then 0x82f63b78#32 else 0#32)) ^^^ BitVec.ofInt 32 (c / 2) = one (x ^^^ BitVec.ofInt 32 c) := by
  unfold one
  have e : (x ^^^ BitVec.ofInt 32 c).getLsbD 0 = told x c := by
    rw [BitVec.getLsbD_xor, lsb_u32, lsb_u32]
    have hc : reg32 (BitVec.ofInt 32 c) = c := by
      obtain ⟨n, rfl⟩ := Int.eq_ofNat_of_zero_le h
      unfold reg32
      rw [BitVec.ofInt_natCast, BitVec.toNat_ofNat]
      omega
    rw [hc]
    unfold told
    have h0 : reg32 x % 2 = 0 ∨ reg32 x % 2 = 1 := by omega
    have h2 : c % 2 = 0 ∨ c % 2 = 1 := by omega
    rcases h0 with h0 | h0 <;> rcases h2 with h2 | h2 <;> rw [h0, h2] <;> rfl
  rw [e, BitVec.ushiftRight_xor_distrib, ofInt_half c h h1]
  ac_rfl
theorem half32 (x : BitVec 32) : reg32 x / (2 : Int) = reg32 (x >>> 1) := u32_shr x 1
set_option maxHeartbeats 2000000 in
theorem rmore_any (s : BitVec 32) (a : Option Addr) (n cap : Nat) (xs : List Int) (w : World) (hr : ReadsB w a n cap xs) :
    Calls Tryd.prog 14 #[.int .u32 (reg32 s), .slice a n cap] w fun e w' => e = .returned (.int .u32 (reg32 (sumMore s xs))) ∧ w = w' := by
  have hn := hr.bound
  have Hr := Lib.hid hr
  clear hr
  have b0 := u32_lo s
  have b1 := u32_hi s
  have E0 := sub_all s
  go_enter Tryd.func14, Tryd.ntmps14
  go_wp2
  clear E0
  go_loop [5, 6] (fun x i => ∃ k : Nat, k ≤ n ∧ i = .int .i64 k ∧ x = .int .u32 (reg32 (reg (notb s) (xs.take k)))) (fun _ i => n - (intOf i).toNat)
  case atStart => exact ⟨0, Nat.zero_le _, rfl, rfl⟩
  case round =>
    obtain ⟨k, hk, rfl, rfl⟩ := hrel
    by_cases hlt : k < n
    · have HT := Lib.hid (reg_take (notb s) xs k (by rw [Hr.out.len]; exact hlt))
      obtain ⟨b, off, rfl, hcc⟩ := Hr.out.addr (by omega)
      have c0 := hcc k hlt
      clear hcc
      have hby : Byte (xs.getD k 0) := Hr.out.getD k hlt
      generalize hC : xs.getD k 0 = C0 at *
      generalize reg (notb s) (xs.take k) = X0 at *
      clear hC
      have HBy := Lib.hid hby
      clear hby
      have hd : decide ((k : Int) < (n : Int)) = true := by simp; omega
      go_wp2
      go_loop [5, 7, 8] (fun x c j => ∃ (m : Nat) (X : BitVec 32) (C : Int), m ≤ 8 ∧ j = .int .i64 m ∧ x = .int .u32 (reg32 X) ∧ c = .int .u8 C ∧ 0 ≤ C ∧ C < 2 ^ (8 - m) ∧ X ^^^ BitVec.ofInt 32 C = iter one m (X0 ^^^ BitVec.ofInt 32 C0)) (fun _ _ j => 8 - (intOf j).toNat)
      case atStart => exact ⟨0, X0, C0, by omega, rfl, rfl, rfl, HBy.out.1, HBy.out.2, rfl⟩
      case round =>
        obtain ⟨m, X, C, hm, rfl, rfl, rfl, hC0, hC1, hX⟩ := hrel
        have HX := Lib.hid hX
        have HC1 := Lib.hid hC1
        clear hX hC1
        by_cases hlm : m < 8
        · have hC2 : C < 256 := by
            have h1 : (2 : Int) ^ (8 - m) ≤ 2 ^ 8 := by have := Nat.pow_le_pow_right (show 0 < 2 by decide) (show 8 - m ≤ 8 by omega); exact_mod_cast this
            have := HC1.out
            omega
          have hC3 : C / 2 < 2 ^ (8 - (m + 1)) := by
            have h1 : (2 : Int) ^ (8 - m) = 2 ^ (8 - (m + 1)) * 2 := by rw [← Int.pow_succ]; congr 1; omega
            have := HC1.out
            omega
          have HC3 := Lib.hid hC3
          clear hC3
          have HS : Hid (((X >>> 1) ^^^ (if told X C then 0x82f63b78#32 else 0#32)) ^^^ BitVec.ofInt 32 (C / 2) = iter one (m + 1) (X0 ^^^ BitVec.ofInt 32 C0)) := Lib.hid (by
            rw [step_ref X C hC0 (by omega), HX.out, iter_succ' one m])
          have x0 := u32_lo X
          have x1 := u32_hi X
          have hh := half32 X
          by_cases ht : told X C = true
          · have et : (reg32 X % 2 != C % 2) = true := ht
            rw [if_pos ht] at HS
            have ex := xorb_eq (X >>> 1) 2197175160
            go_wp2
            go_round
            case rel => exact ⟨m + 1, xorb (X >>> 1) 2197175160, C / 2, by omega, by go_num, rfl, rfl, by omega, HC3.out, HS.out⟩
            case measure => simp [intOf]; omega
          · have et : (reg32 X % 2 != C % 2) = false := by
              have : told X C = false := by simpa using ht
              exact this
            rw [if_neg ht] at HS
            go_wp2
            go_round
            case rel => exact ⟨m + 1, X >>> 1, C / 2, by omega, by go_num, rfl, rfl, by omega, HC3.out, by have := HS.out; rw [BitVec.xor_zero] at this; exact this⟩
            case measure => simp [intOf]; omega
        · obtain rfl : m = 8 := by omega
          have hCz : C = 0 := by have := HC1.out; simp at this; omega
          have hXX : X = half (half (xorb X0 C0)) := by
            have := HX.out
            rw [hCz, show BitVec.ofInt 32 0 = 0#32 by decide, BitVec.xor_zero] at this
            rw [this]; unfold half xorb; rw [← iter_add]
          have HXX := Lib.hid hXX
          clear hCz hXX
          go_wp2
          go_round
          case rel => exact ⟨k + 1, by omega, by go_num, by rw [HT.out, ← HXX.out]⟩
          case measure => simp [intOf]; omega
    · have b2 := u32_lo (reg (notb s) (xs.take k))
      have b3 := u32_hi (reg (notb s) (xs.take k))
      have E9 := sub_all (reg (notb s) (xs.take k))
      go_wp2
      go_ret
      refine ⟨?_, rfl⟩
      rw [List.take_of_length_le (by have := Hr.out.len; omega)]
      rfl
theorem ReadsB.drewB {w : World} {a : Option Addr} {n cap : Nat} {xs : List Int} (h : ReadsB w a n cap xs) : ReadsB w.drew a n cap xs := ⟨h.len, h.bound, h.fits, h.room, h.nil, h.byte, h.addr⟩
/-- 'make([]byte, k)' -/
def zerosV (k : Nat) : Array Value := madeCells (Value.int .u8 0).cells k
theorem make_bytes (k : Nat) (hk : k ≤ 140737488351232) (W : World) : (Instr.makeSlice 22 (.int .i64 (k : Int)) (.int .i64 (k : Int))).run Tryd.prog W = .ok (.slice (some ⟨W.heap.size, 0, none⟩) k k) (W.alloc (.cells (zerosV k) 5)) := by
  obtain ⟨i0, hi, hz0, hz1, hz2⟩ := info_parts Tryd.infoB
  have := run_make (P := Tryd.prog) W 22 5 i0 (.int .u8 0) Tryd.underlying22 hi hz0 .i64 .i64 (k : Int) (k : Int) (by omega) (Int.le_refl _) (by rw [hz2]; omega) (by omega)
  rw [hz1, Int.toNat_natCast, Nat.mul_one] at this
  exact this
theorem zerosV_list (k : Nat) : (zerosV k).toList = bytesV (List.replicate k 0) := by
  unfold zerosV
  rw [show (Value.int .u8 0).cells = #[Value.int .u8 0] from rfl, toList_madeCells_one]
  simp [bytesV]
theorem zeros_bytes (k : Nat) : IsBytes (List.replicate k 0) := by
  intro c hc
  rw [List.mem_replicate] at hc
  rw [hc.2]; exact ⟨by decide, by decide⟩
theorem zeros_reads (k : Nat) (hk : k ≤ 140737488351232) (W : World) : ReadsB (W.alloc (.cells (zerosV k) 5)) (some ⟨W.heap.size, 0, none⟩) k k (List.replicate k 0) := by
  have := built_reads W (zerosV k) (0, 0) (List.replicate k 0) (zerosV_list k) (zeros_bytes k) (by simpa using hk)
  rw [List.length_replicate] at this
  exact this
end Go.Proofs.YtmgnabfmmmagkaaDoor
