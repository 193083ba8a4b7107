/-
  The walks of package sum's More, Sum, one and what they use, at this seat's numbers.
-/
import Derived.Test.YtmgnabfmmmagkaaDoorProg
import Derived.Test.YtmgnabfmmmagkaaDoorCrc
import Derived.WalkKit
import Derived.Outline
import Derived.Laws.BitsLemmas
import Derived.Lib.Hide
set_option linter.unusedVariables false
set_option linter.unusedSimpArgs false
namespace Go.Proofs.YtmgnabfmmmagkaaDoor
open Go Go.RowKit Crc

/-! ### words -/
def IsBytes (l : List Int) : Prop := ∀ c ∈ l, Byte c
/-- a slice of bytes reads so -/
structure ReadsB (w : World) (a : Option Addr) (n cap : Nat) (xs : List Int) : Prop where
  len : xs.length = n
  bound : n ≤ 140737488351232
  fits : n ≤ cap
  room : cap ≤ 9223372036854775807
  nil : a = none → n = 0 ∧ cap = 0
  byte : IsBytes xs
  addr : 0 < n → ∃ b off, a = some ⟨b, off, none⟩ ∧ ∀ j, j < n → w.cell? ⟨b, off + j, none⟩ = some (.int .u8 (xs.getD j 0))
theorem ReadsB.getD {w : World} {a : Option Addr} {n cap : Nat} {xs : List Int} (h : ReadsB w a n cap xs) (j : Nat) (hj : j < n) : Byte (xs.getD j 0) :=
  h.byte _ (by rw [List.getD_eq_getElem?_getD, List.getElem?_eq_getElem (by have := h.len; omega)]; simp)
/-- a register as a number: behind a name, so that no rule on bits takes it apart -/
def reg32 (x : BitVec 32) : Int := (x.toNat : Int)
def low4 (x : BitVec 32) : Nat := x.toNat % 16
theorem low4_lt (x : BitVec 32) : low4 x < 16 := Nat.mod_lt _ (by decide)
theorem u32_lo (x : BitVec 32) : 0 ≤ reg32 x := by unfold reg32; omega
theorem u32_hi (x : BitVec 32) : reg32 x ≤ 4294967295 := by unfold reg32; have := x.isLt; omega
theorem u32_inj {x y : BitVec 32} (h : reg32 x = reg32 y) : x = y := BitVec.eq_of_toNat_eq (by unfold reg32 at h; exact_mod_cast h)
theorem u32_beq (x y : BitVec 32) : (reg32 x == reg32 y) = (x == y) := by
  rw [Bool.eq_iff_iff, beq_iff_eq, beq_iff_eq]
  exact ⟨u32_inj, fun h => by rw [h]⟩
theorem u32_of {a : Int} (h : (Lit.int .u32 a).wf = true) : ∃ x : BitVec 32, a = reg32 x := by
  have hb : 0 ≤ a ∧ a ≤ 4294967295 := by
    simpa [Lit.wf, IntKind.min, IntKind.max, IntKind.signed, IntKind.bits] using h
  obtain ⟨n, rfl⟩ := Int.eq_ofNat_of_zero_le hb.1
  refine ⟨BitVec.ofNat 32 n, ?_⟩
  unfold reg32
  rw [BitVec.toNat_ofNat, Nat.mod_eq_of_lt (by omega)]
theorem ofInt_u32 (x : BitVec 32) : BitVec.ofInt 32 (reg32 x) = x := by unfold reg32; rw [BitVec.ofInt_natCast, BitVec.ofNat_toNat]; simp
theorem wrap_u32v (x : BitVec 32) : IntKind.u32.wrap (x.toNat : Int) = reg32 x := by
  rw [IntKind.wrap_u32]; unfold reg32; have := x.isLt; omega
theorem bits32c (x : BitVec 32) (c : Int) : Go.bits .xor .u32 (reg32 x) c = reg32 (x ^^^ BitVec.ofInt 32 c) := by
  show IntKind.u32.wrap (((BitVec.ofInt 32 (reg32 x)) ^^^ (BitVec.ofInt 32 c)).toNat : Int) = _
  rw [ofInt_u32, wrap_u32v]
theorem bits32 (x y : BitVec 32) : Go.bits .xor .u32 (reg32 x) (reg32 y) = reg32 (x ^^^ y) := by rw [bits32c, ofInt_u32]
theorem and15_32 (x : BitVec 32) : Go.bits .and .u32 (reg32 x) 15 = (low4 x : Int) := by
  show IntKind.u32.wrap (((BitVec.ofInt 32 (reg32 x)) &&& 15#32).toNat : Int) = _
  rw [ofInt_u32, wrap_u32v]; unfold reg32 low4; rw [and15]
theorem shr4 (x : BitVec 32) : reg32 x / (16 : Int) = reg32 (x >>> 4) := by
  unfold reg32
  rw [BitVec.toNat_ushiftRight, Nat.shiftRight_eq_div_pow]
  exact (Int.natCast_ediv _ _).symm
theorem four_lt (j : Nat) : fours.getD j 0 < 4294967296 := by
  by_cases h : j < 16
  · have : ∀ j : Fin 16, fours.getD j.val 0 < 4294967296 := by decide
    exact this ⟨j, h⟩
  · rw [List.getD_eq_getElem?_getD, List.getElem?_eq_none (by simp [fours]; omega)]; decide
/-- half a byte's step, as the program does it -/
def half (x : BitVec 32) : BitVec 32 := iter one 4 x
def fourAt (j : Nat) : Int := (fours.getD j 0 : Nat)
theorem half_eq (x : BitVec 32) : Go.bits .xor .u32 (reg32 x / 16) (fourAt (low4 x)) = reg32 (half x) := by
  have e : fourAt (low4 x) = reg32 (BitVec.ofNat 32 (fours.getD (x.toNat % 16) 0)) := by
    unfold fourAt reg32 low4
    rw [BitVec.toNat_ofNat]
    have := four_lt (x.toNat % 16)
    omega
  rw [shr4, e, bits32]; unfold half; rw [iter4]
def notb (x : BitVec 32) : BitVec 32 := ~~~ x
theorem not32 (x : BitVec 32) : Go.bits .xor .u32 IntKind.u32.max (reg32 x) = reg32 (notb x) := by
  show IntKind.u32.wrap (((BitVec.ofInt 32 4294967295) ^^^ (BitVec.ofInt 32 (reg32 x))).toNat : Int) = _
  rw [ofInt_u32, wrap_u32v, notb, ones_not, BitVec.xor_comm]; rfl
def xorb (x : BitVec 32) (c : Int) : BitVec 32 := x ^^^ BitVec.ofInt 32 c
theorem xorb_eq (x : BitVec 32) (c : Int) : Go.bits .xor .u32 (reg32 x) c = reg32 (xorb x c) := bits32c x c
theorem reg_take (x : BitVec 32) (xs : List Int) (k : Nat) (h : k < xs.length) : reg x (xs.take (k + 1)) = half (half (xorb (reg x (xs.take k)) (xs.getD k 0))) := by
  unfold half xorb
  rw [List.take_succ_eq_append_getElem h, reg_append, ← iter_add, List.getD_eq_getElem?_getD, List.getElem?_eq_getElem h]
  rfl
/-- the table of the sum -/
def Fours (w : World) : Prop := ∀ j, j < 16 → w.cell? ⟨0, j, none⟩ = some (.int .u32 (fourAt j))
def sumMore (s : BitVec 32) (xs : List Int) : BitVec 32 := more s xs
set_option maxHeartbeats 1000000 in
theorem more_any (s : BitVec 32) (a : Option Addr) (n cap : Nat) (xs : List Int) (w : World) (hr : ReadsB w a n cap xs) (hg : Fours w) :
    Calls Tryd.prog 15 #[.int .u32 (reg32 s), .slice a n cap] w fun e w' => e = .returned (.int .u32 (reg32 (sumMore s xs))) ∧ w = w' := by
  have hn := hr.bound
  have Hl := Lib.hid hr.len
  have Hr := Lib.hid hr
  have Hg := Lib.hid hg
  clear hr hg
  have E0 := not32 s
  go_enter Tryd.func15, Tryd.ntmps15
  go_wp2
  clear E0
  go_loop [5, 12] (fun x i => ∃ k : Nat, k ≤ n ∧ i = .int .i64 k ∧ x = .int .u32 (reg32 (reg (notb s) (xs.take k)))) (fun _ i => n - (intOf i).toNat)
  case atStart => exact ⟨0, Nat.zero_le _, rfl, rfl⟩
  case round =>
    obtain ⟨k, hk, rfl, rfl⟩ := hrel
    have HT := Lib.hid (reg_take (notb s) xs k)
    by_cases hlt : k < n
    · obtain ⟨b, off, rfl, hcc⟩ := Hr.out.addr (by omega)
      have c0 := hcc k hlt
      clear hcc
      have hby : Byte (xs.getD k 0) := Hr.out.getD k hlt
      have HT2 := Lib.hid (HT.out (by have := Hl.out; omega))
      clear HT
      generalize hC : xs.getD k 0 = C at *
      generalize reg (notb s) (xs.take k) = X at *
      clear hC
      obtain ⟨hb0, hb1⟩ := hby
      have e1 := xorb_eq X C
      have e2 := and15_32 (xorb X C)
      have e3 := half_eq (xorb X C)
      have e4 := and15_32 (half (xorb X C))
      have e5 := half_eq (half (xorb X C))
      have l1 := low4_lt (xorb X C)
      have l2 := low4_lt (half (xorb X C))
      have b1 := u32_lo (xorb X C)
      have b2 := u32_lo (half (xorb X C))
      have c1 := Hg.out (low4 (xorb X C)) (low4_lt _)
      have c2 := Hg.out (low4 (half (xorb X C))) (low4_lt _)
      go_wp2
      go_round
      case rel => exact ⟨k + 1, by omega, by go_num, by rw [HT2.out]⟩
      case measure => simp [intOf]; omega
    · have E9 := not32 (reg (notb s) (xs.take k))
      go_wp2
      go_ret
      refine ⟨?_, rfl⟩
      rw [List.take_of_length_le (by have := Hl.out; omega)]
      rfl
end Go.Proofs.YtmgnabfmmmagkaaDoor
