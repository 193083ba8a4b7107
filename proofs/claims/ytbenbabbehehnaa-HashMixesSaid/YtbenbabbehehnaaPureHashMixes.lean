/-
  Mix, Of and Front answer as the document's answer does, for every number, list of numbers and count.
  Conditions: none beyond the given statement's own.
-/
import Derived.Test.YtbenbabbehehnaaPHashMixesx
set_option linter.unusedVariables false
set_option linter.unusedSimpArgs false
namespace Go.Proofs.Ytbenbabbehehnaa.Pure
open Go Go.RowKit Go.Proofs.Ytbenbabbehehnaa.PHashMixes Go.Proofs.YtbenbabbehehnaaW.PrintWords Go.Proofs.YtbenbabbehehnaaW.PrintLast Go.Proofs.YtbenbabbehehnaaW.PrintMore
namespace Hsh
abbrev B := BitVec 64
def mix1 (x : B) : B := (x ^^^ x >>> 30) * 13787848793156543929#64
def mix2 (x : B) : B := (x ^^^ x >>> 27) * 10723151780598845931#64
def mix (x : B) : B := mix2 (mix1 x) ^^^ mix2 (mix1 x) >>> 31
def uns (x : B) (k : Nat) : B := x ^^^ x >>> k ^^^ x >>> (2 * k)
def inv1 : B := 10871156337175269513#64
def inv2 : B := 3573116690164977347#64
theorem shr_shr (x : B) (a b : Nat) : x >>> a >>> b = x >>> (a + b) := by rw [BitVec.shiftRight_add]
theorem shr_big (x : B) (k : Nat) (h : 64 ≤ k) : x >>> k = 0#64 := by
  apply BitVec.eq_of_getLsbD_eq
  intro i hi
  rw [BitVec.getLsbD_ushiftRight, BitVec.getLsbD_of_ge _ _ (by omega)]; simp
theorem xor_cancel (a b : B) : a ^^^ (a ^^^ b) = b := by rw [← BitVec.xor_assoc]; simp
theorem uns_turn (y : B) (k : Nat) (h : 64 ≤ 3 * k) : uns (y ^^^ y >>> k) k = y := by
  unfold uns
  rw [BitVec.ushiftRight_xor_distrib, BitVec.ushiftRight_xor_distrib, shr_shr, shr_shr, shr_big y (k + 2 * k) (by omega), show k + k = 2 * k by omega]
  calc y ^^^ y >>> k ^^^ (y >>> k ^^^ y >>> (2 * k)) ^^^ (y >>> (2 * k) ^^^ 0#64) = y ^^^ (y >>> k ^^^ (y >>> k ^^^ (y >>> (2 * k) ^^^ (y >>> (2 * k) ^^^ 0#64)))) := by ac_rfl
    _ = y := by rw [xor_cancel, xor_cancel]; simp
theorem turn_uns (x : B) (k : Nat) (h : 64 ≤ 3 * k) : uns x k ^^^ uns x k >>> k = x := by
  unfold uns
  rw [BitVec.ushiftRight_xor_distrib, BitVec.ushiftRight_xor_distrib, shr_shr, shr_shr, shr_big x (2 * k + k) (by omega), show k + k = 2 * k by omega]
  calc x ^^^ x >>> k ^^^ x >>> (2 * k) ^^^ (x >>> k ^^^ x >>> (2 * k) ^^^ 0#64) = x ^^^ (x >>> k ^^^ (x >>> k ^^^ (x >>> (2 * k) ^^^ (x >>> (2 * k) ^^^ 0#64)))) := by ac_rfl
    _ = x := by rw [xor_cancel, xor_cancel]; simp
def back (x : B) : B := uns (uns (uns x 31 * inv2) 27 * inv1) 30
theorem inv1_r : 13787848793156543929#64 * inv1 = 1#64 := by decide
theorem inv2_r : 10723151780598845931#64 * inv2 = 1#64 := by decide
theorem back_mix (x : B) : back (mix x) = x := by
  unfold back mix
  rw [uns_turn _ 31 (by omega)]
  unfold mix2
  rw [BitVec.mul_assoc, inv2_r, BitVec.mul_one, uns_turn _ 27 (by omega)]
  unfold mix1
  rw [BitVec.mul_assoc, inv1_r, BitVec.mul_one, uns_turn _ 30 (by omega)]
theorem mix_back (x : B) : mix (back x) = x := by
  have e1 : mix1 (back x) = uns (uns x 31 * inv2) 27 := by
    unfold back mix1
    rw [turn_uns _ 30 (by omega), BitVec.mul_assoc, BitVec.mul_comm inv1, inv1_r, BitVec.mul_one]
  have e2 : mix2 (mix1 (back x)) = uns x 31 := by
    rw [e1]; unfold mix2
    rw [turn_uns _ 27 (by omega), BitVec.mul_assoc, BitVec.mul_comm inv2, inv2_r, BitVec.mul_one]
  unfold mix
  rw [e2, turn_uns _ 31 (by omega)]
theorem mix_inj {x y : B} (h : mix x = mix y) : x = y := by rw [← back_mix x, h, back_mix]
def golden : B := 11400714819323198485#64
def stp (k n : B) : B := mix ((k ^^^ n) + golden)
theorem xor_right_inj {a b c : B} (h : a ^^^ b = a ^^^ c) : b = c := by rw [← xor_cancel a b, h, xor_cancel]
theorem add_right_inj {a b c : B} (h : a + c = b + c) : a = b := by
  have := congrArg (· - c) h
  simpa using this
theorem stp_inj_n {k n m : B} (h : stp k n = stp k m) : n = m := xor_right_inj (add_right_inj (mix_inj h))
theorem stp_inj_k {k j n : B} (h : stp k n = stp j n) : k = j := by
  have := add_right_inj (mix_inj h)
  rw [BitVec.xor_comm k, BitVec.xor_comm j] at this
  exact xor_right_inj this
def key (k : B) (l : List B) : B := l.foldl stp k
theorem key_inj {k j : B} (l : List B) (h : key k l = key j l) : k = j := by
  induction l generalizing k j with
  | nil => exact h
  | cons n l ih => exact stp_inj_k (ih h)
theorem key_set (l : List B) (k : B) (i : Nat) (hi : i < l.length) (v : B) (h : key k (l.set i v) = key k l) : v = l[i] := by
  induction l generalizing k i with
  | nil => simp at hi
  | cons n l ih =>
    cases i with
    | zero => exact stp_inj_n (key_inj l h)
    | succ i => exact ih _ i (by simpa using hi) h
end Hsh
open Hsh
theorem u64_of {a : Int} (h : (Lit.int .u64 a).wf = true) : ∃ x : B, a = (x.toNat : Int) := by
  have hb : 0 ≤ a ∧ a ≤ 18446744073709551615 := by
    simpa [Lit.wf, IntKind.min, IntKind.max, IntKind.signed, IntKind.bits] using h
  obtain ⟨n, rfl⟩ := Int.eq_ofNat_of_zero_le hb.1
  refine ⟨BitVec.ofNat 64 n, ?_⟩
  rw [BitVec.toNat_ofNat, Nat.mod_eq_of_lt (by omega)]
theorem list_of {l : List Int} (h : ∀ x ∈ l, (Lit.int .u64 x).wf = true) : ∃ m : List B, l = m.map fun x => (x.toNat : Int) := by
  induction l with
  | nil => exact ⟨[], rfl⟩
  | cons a l ih =>
    obtain ⟨m, rfl⟩ := ih fun x hx => h x (by simp [hx])
    obtain ⟨x, rfl⟩ := u64_of (h a (by simp))
    exact ⟨x :: m, rfl⟩
theorem wrapu (a : Int) : IntKind.u64.wrap a = a % 18446744073709551616 := by
  simp [IntKind.wrap, IntKind.bits, IntKind.signed]
theorem bitsx (x y : B) : Go.bits .xor .u64 (x.toNat : Int) (y.toNat : Int) = ((x ^^^ y).toNat : Int) := by
  have e : ∀ z : B, BitVec.ofInt 64 (z.toNat : Int) = z := fun z => by rw [BitVec.ofInt_natCast, BitVec.ofNat_toNat]; simp
  show IntKind.u64.wrap (((BitVec.ofInt 64 (x.toNat : Int)) ^^^ (BitVec.ofInt 64 (y.toNat : Int))).toNat : Int) = _
  rw [e, e, wrapu]
  have := (x ^^^ y).isLt
  omega
theorem wrapmul (x y : B) (c : Int) (hc : c = (y.toNat : Int)) : IntKind.u64.wrap ((x.toNat : Int) * c) = ((x * y).toNat : Int) := by
  rw [hc, wrapu, BitVec.toNat_mul, Int.natCast_emod, Int.natCast_mul]
  rfl
theorem wrapadd (x y : B) (c : Int) (hc : c = (y.toNat : Int)) : IntKind.u64.wrap ((x.toNat : Int) + c) = ((x + y).toNat : Int) := by
  rw [hc, wrapu, BitVec.toNat_add, Int.natCast_emod, Int.natCast_add]
  rfl
theorem shd (x : B) (n : Nat) (c : Int) (hc : c = ((2 ^ n : Nat) : Int)) : (x.toNat : Int) / c = ((x >>> n).toNat : Int) := by
  rw [hc, BitVec.toNat_ushiftRight, Nat.shiftRight_eq_div_pow, Int.natCast_ediv]
theorem tshd (x : B) (n : Nat) (c : Int) (hc : c = ((2 ^ n : Nat) : Int)) : IntKind.u64.wrap (Int.tdiv (x.toNat : Int) c) = ((x >>> n).toNat : Int) := by
  rw [Int.tdiv_eq_ediv_of_nonneg (by omega), shd x n c hc, wrapu]
  have := (x >>> n).isLt
  omega
theorem mix_f (x : B) : hash_Mix.f (x.toNat : Int) = some ((mix x).toNat : Int) := by
  unfold hash_Mix.f
  rw [shd x 30 _ (by decide), bitsx, wrapmul _ 13787848793156543929#64 _ (by decide), shd _ 27 _ (by decide), bitsx, wrapmul _ 10723151780598845931#64 _ (by decide), shd _ 31 _ (by decide), bitsx]
  rfl
theorem w64 {i : Int} (h0 : -9223372036854775808 ≤ i) (h : i ≤ 9223372036854775807) : wrap64 i = i := by
  unfold wrap64
  omega
theorem rd_map (m : List B) (i : Nat) (h : i < m.length) : rd (m.map fun x => (x.toNat : Int)) (i : Int) = ((m[i]).toNat : Int) := by
  unfold rd
  rw [List.getD_eq_getElem?_getD]
  simp [h]
theorem of_l0 (m : List B) (hm : m.length ≤ 17592186044416) (d : Nat) : ∀ (k i : Nat) (a : B), i ≤ m.length → m.length - i = d → d < k →
    hash_Of.l0 k (a.toNat : Int) (m.map fun x => (x.toNat : Int)) (m.length : Int) (i : Int) = some ((key a (m.drop i)).toNat : Int) := by
  induction d with
  | zero =>
    intro k i a h1 hd hk
    obtain ⟨k, rfl⟩ : ∃ m, k = m + 1 := ⟨k - 1, by omega⟩
    simp only [hash_Of.l0]
    rw [if_neg (by omega), List.drop_of_length_le (by omega)]
    rfl
  | succ d ih =>
    intro k i a h1 hd hk
    obtain ⟨k, rfl⟩ : ∃ m, k = m + 1 := ⟨k - 1, by omega⟩
    have hlt : i < m.length := by omega
    simp only [hash_Of.l0]
    rw [if_pos (by omega), if_pos (by omega), if_pos (by simpa using hlt), rd_map m i hlt, bitsx, wrapadd _ golden _ (by decide), mix_f]
    simp only [Option.bind_some]
    rw [w64 (by omega) (by omega)]
    have := ih k (i + 1) (stp a m[i]) (by omega) (by omega) (by omega)
    rw [List.drop_eq_getElem_cons hlt]
    exact_mod_cast this
theorem of_f (m : List B) (hm : m.length ≤ 17592186044416) (k : Nat) (hk : m.length < k) : hash_Of.f k (m.map fun x => (x.toNat : Int)) = some ((key golden m).toNat : Int) := by
  unfold hash_Of.f
  have := of_l0 m hm m.length k 0 golden (by omega) (by omega) hk
  rw [List.drop_zero] at this
  rw [List.length_map]
  exact this
theorem of_nil (k : Nat) (hk : 0 < k) : hash_Of.f k [] = some (golden.toNat : Int) := by
  exact of_f [] (by simp) k (by simpa using hk)
def fro (a b : Int) : Int := if b < 1 then 0 else a / 2 ^ (64 - (min b 32).toNat)
theorem front_f (x : B) (b : Int) : hash_Front.f (x.toNat : Int) b = some (fro (x.toNat : Int) b) := by
  unfold hash_Front.f fro
  by_cases h : b < 1
  · rw [if_pos h, if_pos h]
  · rw [if_neg h, if_neg h]
    have hm : mn b 32 = min b 32 := by unfold mn; omega
    rw [hm]
    generalize hq : min b 32 = q
    have hq1 : 1 ≤ q := by omega
    have hq2 : q ≤ 32 := by omega
    rw [w64 (i := 64 - q) (by omega) (by omega), if_pos (by omega)]
    congr 1
    unfold shr
    have e : min (64 - q).toNat (IntKind.bits .u64) = 64 - q.toNat := by
      show min (64 - q).toNat 64 = _
      omega
    rw [e]
    obtain ⟨n, rfl⟩ := Int.eq_ofNat_of_zero_le (show 0 ≤ q by omega)
    have e2 : (64 - ((n : Int)).toNat) = 32 + (32 - n) := by omega
    rw [e2, Int.pow_add]
    have hx := x.isLt
    have hp : (1 : Int) ≤ 2 ^ (32 - n) := by
      have := Nat.one_le_two_pow (n := 32 - n)
      exact_mod_cast this
    have h0 : 0 ≤ (x.toNat : Int) / (2 ^ 32 * 2 ^ (32 - n)) := Int.ediv_nonneg (by omega) (by omega)
    have h1 : (x.toNat : Int) / (2 ^ 32 * 2 ^ (32 - n)) ≤ 4294967296 := by
      rw [Int.ediv_ediv_of_nonneg (by decide) |>.symm]
      have hy : (x.toNat : Int) / 2 ^ 32 ≤ 4294967296 := by omega
      have hy0 : 0 ≤ (x.toNat : Int) / 2 ^ 32 := by omega
      calc _ ≤ (x.toNat : Int) / 2 ^ 32 := Int.ediv_le_self _ hy0
        _ ≤ _ := hy
    exact w64 (by omega) (by omega)
theorem sure_f (k : Nat) (hk : 20 ≤ k) : quiltlaw06_sure.f k = some true := by
  have h : quiltlaw06_sure.f 20 = some true := by decide +kernel
  exact at_rounds (g := fun k => quiltlaw06_sure.f k) (fun k => quiltlaw06_sure.mono k) hk h
theorem inv2_f (k : Nat) (hk : 20 ≤ k) : hash_inverse.f k 10723151780598845931 = some (inv2.toNat : Int) := by
  have h : hash_inverse.f 20 10723151780598845931 = some (inv2.toNat : Int) := by decide +kernel
  exact at_rounds (g := fun k => hash_inverse.f k 10723151780598845931) (fun k => hash_inverse.mono _ k) hk h
theorem inv1_f (k : Nat) (hk : 20 ≤ k) : hash_inverse.f k 13787848793156543929 = some (inv1.toNat : Int) := by
  have h : hash_inverse.f 20 13787848793156543929 = some (inv1.toNat : Int) := by decide +kernel
  exact at_rounds (g := fun k => hash_inverse.f k 13787848793156543929) (fun k => hash_inverse.mono _ k) hk h
theorem shr_b (x : B) (n : Nat) (hn : n < 64) : shr .u64 (x.toNat : Int) (n : Int) = ((x >>> n).toNat : Int) := by
  unfold shr
  have e : min ((n : Int)).toNat (IntKind.bits .u64) = n := by
    show min ((n : Int)).toNat 64 = _
    omega
  rw [e]
  exact shd x n _ (by simp)
theorem uns_f (x : B) (b : Nat) (h1 : 22 ≤ b) (h2 : b ≤ 31) (k : Nat) (hk : 20 ≤ k) : hash_unshift.f k (x.toNat : Int) (b : Int) = some ((uns x b).toNat : Int) := by
  obtain ⟨k, rfl⟩ : ∃ m, k = m + 3 := ⟨k - 3, by omega⟩
  unfold hash_unshift.f
  simp only [hash_unshift.l0]
  rw [if_pos (by omega), if_pos (by omega), w64 (by omega) (by omega), if_pos (by omega), if_pos (by omega), w64 (by omega) (by omega), if_neg (by omega), shr_b x b (by omega), bitsx,
    show (b : Int) + (b : Int) = ((2 * b : Nat) : Int) by omega, shr_b x (2 * b) (by omega), bitsx]
  rfl
theorem back_f (x : B) (k : Nat) (hk : 20 ≤ k) : hash_Back.f k (x.toNat : Int) = some ((back x).toNat : Int) := by
  unfold hash_Back.f
  have e1 := uns_f x 31 (by omega) (by omega) k hk
  rw [show ((31 : Nat) : Int) = 31 from rfl] at e1
  rw [e1]; simp only [Option.bind_some]
  rw [inv2_f k hk]; simp only [Option.bind_some]
  rw [wrapmul _ inv2 _ rfl]
  have e2 := uns_f (uns x 31 * inv2) 27 (by omega) (by omega) k hk
  rw [show ((27 : Nat) : Int) = 27 from rfl] at e2
  rw [e2]; simp only [Option.bind_some]
  rw [inv1_f k hk]; simp only [Option.bind_some]
  rw [wrapmul _ inv1 _ rfl]
  have e3 := uns_f (uns (uns x 31 * inv2) 27 * inv1) 30 (by omega) (by omega) k hk
  rw [show ((30 : Nat) : Int) = 30 from rfl] at e3
  rw [e3]
  rfl
theorem eq_iff (x y : B) : ((x.toNat : Int) = (y.toNat : Int)) ↔ x = y := by
  constructor
  · intro h; exact BitVec.eq_of_toNat_eq (by exact_mod_cast h)
  · rintro rfl; rfl
theorem beq_int (x y : B) : ((x.toNat : Int) == (y.toNat : Int)) = (x == y) := by
  rw [Bool.eq_iff_iff, beq_iff_eq, beq_iff_eq, eq_iff]
theorem rmix_f (x : B) : quiltref06_Mix.f (x.toNat : Int) = some ((mix x).toNat : Int) := by
  unfold quiltref06_Mix.f
  rw [tshd x 30 _ (by decide), bitsx, wrapmul _ 13787848793156543929#64 _ (by decide), tshd _ 27 _ (by decide), bitsx, wrapmul _ 10723151780598845931#64 _ (by decide), tshd _ 31 _ (by decide), bitsx]
  rfl
theorem rof_l0 (m : List B) (hm : m.length ≤ 17592186044416) (d : Nat) : ∀ (k i : Nat) (a : B), i ≤ m.length → m.length - i = d → d < k →
    quiltref06_Of.l0 k (m.map fun x => (x.toNat : Int)) (a.toNat : Int) (i : Int) = some ((key a (m.drop i)).toNat : Int) := by
  induction d with
  | zero =>
    intro k i a h1 hd hk
    obtain ⟨k, rfl⟩ : ∃ m, k = m + 1 := ⟨k - 1, by omega⟩
    simp only [quiltref06_Of.l0]
    rw [if_neg (by simp; omega), List.drop_of_length_le (by omega)]
    rfl
  | succ d ih =>
    intro k i a h1 hd hk
    obtain ⟨k, rfl⟩ : ∃ m, k = m + 1 := ⟨k - 1, by omega⟩
    have hlt : i < m.length := by omega
    simp only [quiltref06_Of.l0]
    rw [if_pos (by simpa using hlt), if_pos (by omega), rd_map m i hlt, bitsx, wrapadd _ golden _ (by decide), rmix_f]
    rw [Option.bind_some]
    rw [w64 (by omega) (by omega)]
    have := ih k (i + 1) (stp a m[i]) (by omega) (by omega) (by omega)
    rw [List.drop_eq_getElem_cons hlt]
    exact_mod_cast this
theorem rof_f (m : List B) (hm : m.length ≤ 17592186044416) (k : Nat) (hk : m.length < k) : quiltref06_Of.f k (m.map fun x => (x.toNat : Int)) = some ((key golden m).toNat : Int) := by
  unfold quiltref06_Of.f
  have := rof_l0 m hm m.length k 0 golden (by omega) (by omega) hk
  rw [List.drop_zero] at this
  exact this
theorem top_bit (X P Q : Int) (hpp : 0 < P) (hqp : 0 < Q) (hpq : P * (Q * 2) = 18446744073709551616) :
    X / Q = 2 * (X / (Q * 2)) + (if X * P % 18446744073709551616 ≥ 9223372036854775808 then 1 else 0) := by
  have hmod : X * P % 18446744073709551616 = P * (X % (Q * 2)) := by
    rw [← hpq, Int.mul_comm X P, Int.mul_emod_mul_of_pos _ _ hpp]
  rw [hmod]
  have hd := Int.mul_ediv_add_emod X (Q * 2)
  have hr0 := Int.emod_nonneg X (show Q * 2 ≠ 0 by omega)
  have hr1 := Int.emod_lt_of_pos X (show 0 < Q * 2 by omega)
  generalize X / (Q * 2) = D at *
  generalize X % (Q * 2) = r at *
  have h63 : P * Q = 9223372036854775808 := by
    have : P * Q * 2 = 18446744073709551616 := by rw [Int.mul_assoc]; exact hpq
    omega
  have hc : Q * 2 * D = 2 * D * Q := by rw [Int.mul_comm Q 2, Int.mul_assoc, Int.mul_comm Q D, ← Int.mul_assoc]
  by_cases hge : Q ≤ r
  · have : P * Q ≤ P * r := Int.mul_le_mul_of_nonneg_left hge (by omega)
    rw [if_pos (by omega)]
    have hXe : X = (r - Q) + (2 * D + 1) * Q := by rw [← hd, Int.add_mul]; omega
    rw [hXe, Int.add_mul_ediv_right _ _ (by omega), Int.ediv_eq_zero_of_lt (by omega) (by omega)]
    omega
  · have : P * r < P * Q := Int.mul_lt_mul_of_pos_left (by omega) hpp
    rw [if_neg (by omega)]
    have hXe : X = r + (2 * D) * Q := by rw [← hd]; omega
    rw [hXe, Int.add_mul_ediv_right _ _ (by omega), Int.ediv_eq_zero_of_lt (by omega) (by omega)]
    omega
theorem rfront_l0 (x : B) (b : Int) (d : Nat) : ∀ (k i : Nat), i ≤ 32 → (i : Int) ≤ max b 0 → (min (max b 0) 32) - (i : Int) = (d : Int) → 2 * d + 2 < k →
    quiltref06_Front.l0 k (IntKind.u64.wrap ((x.toNat : Int) * 2 ^ i)) b ((x.toNat : Int) / 2 ^ (64 - i)) (i : Int) = some (fro (x.toNat : Int) b) := by
  have hx := x.isLt
  induction d with
  | zero =>
    intro k i h1 hb hd hk
    obtain ⟨k, rfl⟩ : ∃ m, k = m + 2 := ⟨k - 2, by omega⟩
    have hv : (x.toNat : Int) / 2 ^ (64 - i) = fro (x.toNat : Int) b := by
      unfold fro
      by_cases h : b < 1
      · rw [if_pos h]
        obtain rfl : i = 0 := by omega
        simp; omega
      · rw [if_neg h]
        congr 2
        omega
    simp only [quiltref06_Front.l0]
    by_cases hlt : (i : Int) < b
    · rw [if_pos hlt]
      simp only [quiltref06_Front.j1]
      rw [if_neg (by simp; omega), hv]
    · rw [if_neg hlt]
      simp only [quiltref06_Front.j1]
      rw [if_neg (by simp), hv]
  | succ d ih =>
    intro k i h1 hb hd hk
    obtain ⟨k, rfl⟩ : ∃ m, k = m + 2 := ⟨k - 2, by omega⟩
    have hi : i < 32 := by omega
    simp only [quiltref06_Front.l0]
    rw [if_pos (by omega)]
    simp only [quiltref06_Front.j1]
    rw [if_pos (by simp; omega)]
    have ih := ih k (i + 1) (by omega) (by omega) (by omega) (by omega)
    have hp : (2 : Int) ^ (i + 1) = 2 ^ i * 2 := Int.pow_succ ..
    have hq : (2 : Int) ^ (64 - i) = 2 ^ (64 - (i + 1)) * 2 := by
      rw [← Int.pow_succ]; congr 1; omega
    have hpq : (2 : Int) ^ i * 2 ^ (64 - i) = 18446744073709551616 := by
      rw [← Int.pow_add, show i + (64 - i) = 64 by omega]; rfl
    have hpp : (0 : Int) < 2 ^ i := Int.pow_pos (by decide)
    have hqp : (0 : Int) < 2 ^ (64 - (i + 1)) := Int.pow_pos (by decide)
    have e1 : IntKind.u64.wrap (IntKind.u64.wrap ((x.toNat : Int) * 2 ^ i) * 2) = IntKind.u64.wrap ((x.toNat : Int) * 2 ^ (i + 1)) := by
      rw [wrapu, wrapu, wrapu, Int.mul_emod, Int.emod_emod, ← Int.mul_emod, hp, Int.mul_assoc]
    have hlow : (x.toNat : Int) / 2 ^ (64 - i) ≤ 4294967295 := by
      have : (2 : Int) ^ 32 ≤ 2 ^ (64 - i) := by
        have := Nat.pow_le_pow_right (show 0 < 2 by decide) (show 32 ≤ 64 - i by omega)
        exact_mod_cast this
      have h32 : (x.toNat : Int) / 2 ^ (64 - i) ≤ (x.toNat : Int) / 2 ^ 32 := by
        rw [show 64 - i = 32 + (32 - i) by omega, Int.pow_add, Int.ediv_ediv_of_nonneg (by decide) |>.symm]
        exact Int.ediv_le_self _ (by omega)
      omega
    have hnn : 0 ≤ (x.toNat : Int) / 2 ^ (64 - i) := Int.ediv_nonneg (by omega) (by omega)
    have key0 : (x.toNat : Int) / 2 ^ (64 - (i + 1)) = 2 * ((x.toNat : Int) / 2 ^ (64 - i)) + (if IntKind.u64.wrap ((x.toNat : Int) * 2 ^ i) ≥ 9223372036854775808 then 1 else 0) := by
      rw [wrapu, hq]
      exact top_bit _ _ _ hpp hqp (by rw [← hq]; exact hpq)
    by_cases hge : IntKind.u64.wrap ((x.toNat : Int) * 2 ^ i) ≥ 9223372036854775808
    · rw [if_pos hge, e1, w64 (i := 2 * ((x.toNat : Int) / 2 ^ (64 - i))) (by omega) (by omega), w64 (i := _ + 1) (by omega) (by omega), w64 (i := (i : Int) + 1) (by omega) (by omega)]
      rw [if_pos hge] at key0
      rw [← key0]
      exact_mod_cast ih
    · rw [if_neg hge, e1, w64 (i := 2 * ((x.toNat : Int) / 2 ^ (64 - i))) (by omega) (by omega), w64 (i := (i : Int) + 1) (by omega) (by omega)]
      rw [if_neg hge, Int.add_zero] at key0
      rw [← key0]
      exact_mod_cast ih
theorem rfront_f (x : B) (b : Int) (k : Nat) (hk : 100 ≤ k) : quiltref06_Front.f k (x.toNat : Int) b = some (fro (x.toNat : Int) b) := by
  unfold quiltref06_Front.f
  have hx := x.isLt
  have h := rfront_l0 x b (min (max b 0) 32).toNat k 0 (by omega) (by omega) (by omega) (by omega)
  have e0 : IntKind.u64.wrap ((x.toNat : Int) * 2 ^ 0) = (x.toNat : Int) := by rw [wrapu]; simp; omega
  have e1 : (x.toNat : Int) / 2 ^ (64 - 0) = 0 := by simp; omega
  rw [e0, e1] at h
  exact_mod_cast h
theorem HashMixes : quiltlaw06_HashMixes.Pure := by
  intro a l b ha hl hl2 hw hb
  obtain ⟨m, rfl⟩ := list_of hw
  obtain ⟨x, rfl⟩ := u64_of ha
  rw [List.length_map] at hl2
  obtain ⟨k, hk⟩ : ∃ k : Nat, k = 300 := ⟨_, rfl⟩
  refine ⟨k, ?_⟩
  unfold quiltlaw06_HashMixes.f
  rw [List.length_map]
  by_cases h : (m.length : Int) > 200
  · rw [if_pos h, sure_f k (by omega)]; rfl
  · rw [if_neg h, mix_f, rmix_f, Option.bind_some, Option.bind_some, if_pos rfl, of_f m (by omega) k (by omega), rof_f m (by omega) k (by omega), Option.bind_some, Option.bind_some, if_pos rfl, front_f, rfront_f _ _ k (by omega), Option.bind_some, Option.bind_some, if_pos rfl, sure_f k (by omega)]
    rfl

end Go.Proofs.Ytbenbabbehehnaa.Pure
