/-
  Plain facts on the sum's register (CRC-32C bit by bit): linear, one-to-one; turned bits, bursts, noughts by tables. No program in sight.
-/
namespace Go.Proofs.YtmgnabfmmmagkaaDoor.Crc
def iter {α : Type} (f : α → α) : Nat → α → α
  | 0, x => x
  | n + 1, x => iter f n (f x)
theorem iter_add {α : Type} (f : α → α) (m n : Nat) (x : α) : iter f (m + n) x = iter f n (iter f m x) := by
  induction m generalizing x with
  | zero => simp [iter]
  | succ m ih => rw [Nat.add_right_comm]; simp [iter, ih]
theorem iter_succ' {α : Type} (f : α → α) (n : Nat) (x : α) : iter f (n + 1) x = f (iter f n x) := by
  rw [iter_add]; rfl
theorem iter_mul {α : Type} (f : α → α) (m n : Nat) (x : α) : iter f (m * n) x = iter (iter f m) n x := by
  induction n generalizing x with
  | zero => simp [iter]
  | succ n ih => rw [Nat.mul_succ, Nat.add_comm, iter_add, ih]; rfl

def one (x : BitVec 32) : BitVec 32 := (x >>> 1) ^^^ (if x.getLsbD 0 then 0x82f63b78#32 else 0#32)
theorem one_xor (a b : BitVec 32) : one (a ^^^ b) = one a ^^^ one b := by
  unfold one
  rw [BitVec.getLsbD_xor, BitVec.ushiftRight_xor_distrib]
  cases ha : a.getLsbD 0 <;> cases hb : b.getLsbD 0
  · simp
  · simp [BitVec.xor_assoc]
  · simp; ac_rfl
  · simp only [Bool.xor_self, Bool.false_eq_true, if_false, if_true, BitVec.xor_zero]
    have : (0x82f63b78#32 ^^^ 0x82f63b78#32) = 0#32 := by decide
    calc a >>> 1 ^^^ b >>> 1 = (a >>> 1 ^^^ b >>> 1) ^^^ (0x82f63b78#32 ^^^ 0x82f63b78#32) := by rw [this]; simp
      _ = _ := by ac_rfl
theorem one_zero : one 0#32 = 0#32 := by decide
theorem iter_xor (n : Nat) (a b : BitVec 32) : iter one n (a ^^^ b) = iter one n a ^^^ iter one n b := by
  induction n generalizing a b with
  | zero => rfl
  | succ n ih => simp only [iter, one_xor, ih]
theorem iter_zero (n : Nat) : iter one n 0#32 = 0#32 := by
  induction n with
  | zero => rfl
  | succ n ih => simp only [iter, one_zero, ih]
theorem one_inj0 (a : BitVec 32) (h : one a = 0#32) : a = 0#32 := by
  unfold one at h
  by_cases h0 : a.getLsbD 0 = true
  · rw [if_pos h0] at h
    have := congrArg (fun z : BitVec 32 => z.getLsbD 31) h
    simp at this
  · rw [if_neg h0] at h
    simp only [BitVec.xor_zero] at h
    apply BitVec.eq_of_getLsbD_eq
    intro i hi
    rcases i with _ | i
    · simpa using h0
    · have := congrArg (fun z : BitVec 32 => z.getLsbD i) h
      simpa [BitVec.getLsbD_ushiftRight, Nat.add_comm] using this
theorem iter_inj0 (n : Nat) (a : BitVec 32) (h : iter one n a = 0#32) : a = 0#32 := by
  induction n generalizing a with
  | zero => exact h
  | succ n ih => exact one_inj0 _ (ih _ h)
theorem one_even (y : BitVec 32) (h : y.getLsbD 0 = false) : one y = y >>> 1 := by
  unfold one; rw [h]; simp
/-- four bits at once -/
def fours : List Nat := [0, 274646895, 549293790, 820201905, 1098587580, 1361435347, 1640403810, 1905808397, 2197175160, 2460548119, 2722870694, 2987750089, 3280807620, 3553878443, 3811616794, 4084100981]
theorem fours_low : ∀ i : Fin 16, iter one 4 (BitVec.ofNat 32 i.val) = BitVec.ofNat 32 (fours.getD i.val 0) := by decide
theorem one_shl (y : BitVec 32) (k : Nat) (hk : k < 31) (h : ∀ i, i < k + 1 → y.getLsbD i = false) : one y = y >>> 1 ∧ ∀ i, i < k → (y >>> 1).getLsbD i = false := by
  refine ⟨one_even y (h 0 (by omega)), fun i hi => ?_⟩
  rw [BitVec.getLsbD_ushiftRight]; exact h _ (by omega)
theorem iter4_high (y : BitVec 32) (h : ∀ i, i < 4 → y.getLsbD i = false) : iter one 4 y = y >>> 4 := by
  obtain ⟨e1, h1⟩ := one_shl y 3 (by omega) h
  obtain ⟨e2, h2⟩ := one_shl (y >>> 1) 2 (by omega) h1
  obtain ⟨e3, h3⟩ := one_shl (y >>> 1 >>> 1) 1 (by omega) h2
  obtain ⟨e4, h4⟩ := one_shl (y >>> 1 >>> 1 >>> 1) 0 (by omega) h3
  simp only [iter, e1, e2, e3, e4]
  apply BitVec.eq_of_getLsbD_eq
  intro i hi
  simp only [BitVec.getLsbD_ushiftRight]
  congr 1; omega
theorem split4 (x : BitVec 32) : x = (x &&& 0xfffffff0#32) ^^^ (x &&& 15#32) := by
  apply BitVec.eq_of_getLsbD_eq
  intro i hi
  have : ∀ i : Fin 32, (0xfffffff0#32).getLsbD i.val = !((15#32).getLsbD i.val) := by decide
  have := this ⟨i, hi⟩
  simp only at this
  rw [BitVec.getLsbD_xor, BitVec.getLsbD_and, BitVec.getLsbD_and, this]
  cases x.getLsbD i <;> cases (15#32).getLsbD i <;> rfl
theorem and15 (x : BitVec 32) : (x &&& 15#32).toNat = x.toNat % 16 := by
  rw [BitVec.toNat_and]; exact Nat.and_two_pow_sub_one_eq_mod _ 4
theorem iter4 (x : BitVec 32) : iter one 4 x = (x >>> 4) ^^^ BitVec.ofNat 32 (fours.getD (x.toNat % 16) 0) := by
  have e := split4 x
  rw [show iter one 4 x = iter one 4 ((x &&& 0xfffffff0#32) ^^^ (x &&& 15#32)) by rw [← e], iter_xor]
  congr 1
  · rw [iter4_high _ ?_]
    · apply BitVec.eq_of_getLsbD_eq
      intro i hi
      simp only [BitVec.getLsbD_ushiftRight, BitVec.getLsbD_and]
      by_cases h : 4 + i < 32
      · have : ∀ i : Fin 28, (0xfffffff0#32).getLsbD (4 + i.val) = true := by decide
        rw [this ⟨i, by omega⟩]; simp
      · rw [BitVec.getLsbD_of_ge _ _ (by omega)]; simp
    · intro i hi
      rw [BitVec.getLsbD_and]
      have : ∀ i : Fin 4, (0xfffffff0#32).getLsbD i.val = false := by decide
      rw [this ⟨i, hi⟩]; simp
  · have := fours_low ⟨x.toNat % 16, by omega⟩
    simp only at this
    rw [← this]; congr 1
    apply BitVec.eq_of_toNat_eq
    rw [and15, BitVec.toNat_ofNat]; omega
/-- a register with a byte more -/
def byteStep (x : BitVec 32) (c : Int) : BitVec 32 := iter one 8 (x ^^^ BitVec.ofInt 32 c)
def reg (x : BitVec 32) (l : List Int) : BitVec 32 := l.foldl byteStep x
theorem reg_append (x : BitVec 32) (l m : List Int) : reg x (l ++ m) = reg (reg x l) m := by simp [reg]
theorem reg_cons (x : BitVec 32) (c : Int) (m : List Int) : reg x (c :: m) = reg (byteStep x c) m := rfl
theorem reg_nil (x : BitVec 32) : reg x [] = x := rfl
def more (s : BitVec 32) (l : List Int) : BitVec 32 := ~~~ (reg (~~~ s) l)
theorem more_append (s : BitVec 32) (l m : List Int) : more s (l ++ m) = more (more s l) m := by
  simp [more, reg_append]
theorem reg_zeros (x : BitVec 32) (n : Nat) : reg x (List.replicate n 0) = iter one (8 * n) x := by
  induction n generalizing x with
  | zero => rfl
  | succ n ih =>
    rw [List.replicate_succ, reg_cons, ih, Nat.mul_succ, Nat.add_comm, iter_add]
    simp [byteStep]
/-- Two texts of one length, one turned by the other. -/
def xorI (a b : Int) : Int := ((BitVec.ofInt 8 a ^^^ BitVec.ofInt 8 b).toNat : Int)
def Byte (c : Int) : Prop := 0 ≤ c ∧ c < 256
theorem byte32 (c : Int) (h : Byte c) : BitVec.ofInt 32 c = (BitVec.ofInt 8 c).setWidth 32 := by
  obtain ⟨h0, h1⟩ := h
  obtain ⟨n, rfl⟩ := Int.eq_ofNat_of_zero_le h0
  apply BitVec.eq_of_toNat_eq
  simp only [BitVec.ofInt_natCast, BitVec.toNat_ofNat, BitVec.toNat_setWidth]
  omega
theorem xorI_byte (a b : Int) : Byte (xorI a b) := by
  unfold Byte xorI
  have := (BitVec.ofInt 8 a ^^^ BitVec.ofInt 8 b).isLt
  omega
theorem xorI_32 (a b : Int) (ha : Byte a) (hb : Byte b) : BitVec.ofInt 32 (xorI a b) = BitVec.ofInt 32 a ^^^ BitVec.ofInt 32 b := by
  rw [byte32 _ (xorI_byte a b), byte32 a ha, byte32 b hb, ← BitVec.setWidth_xor]
  congr 1
  unfold xorI
  rw [BitVec.ofInt_natCast, BitVec.ofNat_toNat]; simp
theorem byteStep_xor (x y : BitVec 32) (a b : Int) (ha : Byte a) (hb : Byte b) : byteStep (x ^^^ y) (xorI a b) = byteStep x a ^^^ byteStep y b := by
  unfold byteStep
  rw [xorI_32 a b ha hb, ← iter_xor]; congr 1; ac_rfl
theorem reg_xor (l m : List Int) : ∀ (x y : BitVec 32), l.length = m.length → (∀ c ∈ l, Byte c) → (∀ c ∈ m, Byte c) → reg (x ^^^ y) (List.zipWith xorI l m) = reg x l ^^^ reg y m := by
  induction l generalizing m with
  | nil => intro x y h _ _; cases m with | nil => rfl | cons _ _ => simp at h
  | cons a l ih =>
    intro x y h hl hm
    cases m with
    | nil => simp at h
    | cons b m =>
      simp only [List.zipWith_cons_cons, reg_cons]
      rw [byteStep_xor _ _ _ _ (hl a (by simp)) (hm b (by simp))]
      exact ih m _ _ (by simpa using h) (fun c hc => hl c (by simp [hc])) (fun c hc => hm c (by simp [hc]))

/-! ### 2. One place turned -/
theorem byteStep_turn (x : BitVec 32) (a c : Int) (ha : Byte a) (hc : Byte c) : byteStep x (xorI a c) = byteStep x a ^^^ iter one 8 (BitVec.ofInt 32 c) := by
  have := byteStep_xor x 0#32 a c ha hc
  rw [BitVec.xor_zero] at this
  rw [this]; simp [byteStep]
theorem reg_turn (l : List Int) : ∀ (x d : BitVec 32), reg (x ^^^ d) l = reg x l ^^^ iter one (8 * l.length) d := by
  induction l with
  | nil => intro x d; rfl
  | cons c l ih =>
    intro x d
    rw [reg_cons, reg_cons, show byteStep (x ^^^ d) c = byteStep x c ^^^ iter one 8 d by
      unfold byteStep; rw [← iter_xor]; congr 1; ac_rfl, ih, List.length_cons, Nat.mul_succ, Nat.add_comm, iter_add]
theorem reg_set (l : List Int) (k : Nat) (hk : k < l.length) (x : BitVec 32) (c : Int) (hl : ∀ c ∈ l, Byte c) (hc : Byte c) :
    reg x (l.set k (xorI (l.getD k 0) c)) = reg x l ^^^ iter one (8 * (l.length - k)) (BitVec.ofInt 32 c) := by
  induction l generalizing k x with
  | nil => simp at hk
  | cons a l ih =>
    cases k with
    | zero =>
      simp only [List.set_cons_zero, List.getD_cons_zero, reg_cons]
      rw [byteStep_turn _ _ _ (hl a (by simp)) hc, reg_turn, List.length_cons, Nat.sub_zero, Nat.mul_succ, Nat.add_comm, iter_add]
    | succ k =>
      simp only [List.set_cons_succ, List.getD_cons_succ, reg_cons, List.length_cons, Nat.add_sub_add_right]
      exact ih k (by simpa using hk) _ (fun c hc => hl c (by simp [hc]))

/-! ### 3. What is marked -/
def ones : BitVec 32 := 0xffffffff#32
theorem ones_not (x : BitVec 32) : ~~~ x = x ^^^ ones := by
  rw [BitVec.xor_comm]; exact (BitVec.allOnes_xor).symm
def sum4 (s : BitVec 32) : List Int := [(s.toNat : Int) % 256, (s.toNat : Int) / 256 % 256, (s.toNat : Int) / 65536 % 256, (s.toNat : Int) / 16777216 % 256]
theorem sum4_length (s : BitVec 32) : (sum4 s).length = 4 := rfl
theorem sum4_byte (s : BitVec 32) : ∀ c ∈ sum4 s, Byte c := by
  intro c hc
  simp only [sum4, List.mem_cons, List.not_mem_nil, or_false] at hc
  rcases hc with rfl | rfl | rfl | rfl <;> (constructor <;> omega)
/-- four bytes as a number -/
def word (a b c d : Int) : BitVec 32 := BitVec.ofInt 32 (a + 256 * b + 65536 * c + 16777216 * d)
theorem word_sum4 (s : BitVec 32) : word ((s.toNat : Int) % 256) ((s.toNat : Int) / 256 % 256) ((s.toNat : Int) / 65536 % 256) ((s.toNat : Int) / 16777216 % 256) = s := by
  have h := s.isLt
  unfold word
  rw [show (s.toNat : Int) % 256 + 256 * ((s.toNat : Int) / 256 % 256) + 65536 * ((s.toNat : Int) / 65536 % 256) + 16777216 * ((s.toNat : Int) / 16777216 % 256) = (s.toNat : Int) by omega]
  rw [BitVec.ofInt_natCast, BitVec.ofNat_toNat]; simp
theorem iter8_shl (y : BitVec 32) (h : ∀ i, i < 8 → y.getLsbD i = false) : iter one 8 y = y >>> 8 := by
  rw [show (8 : Nat) = 4 + 4 from rfl, iter_add, iter4_high y (fun i hi => h i (by omega)), iter4_high _ (fun i hi => by rw [BitVec.getLsbD_ushiftRight]; exact h _ (by omega))]
  apply BitVec.eq_of_getLsbD_eq
  intro i hi
  simp only [BitVec.getLsbD_ushiftRight]
  congr 1; omega
theorem byteStep_low (x : BitVec 32) (c r : Int) : byteStep (x ^^^ BitVec.ofInt 32 (256 * r)) c = byteStep x c ^^^ BitVec.ofInt 32 r ∨ ¬ (Byte r ∨ (0 ≤ r ∧ r < 16777216)) := by
  by_cases hr : 0 ≤ r ∧ r < 16777216
  · left
    unfold byteStep
    rw [show x ^^^ BitVec.ofInt 32 (256 * r) ^^^ BitVec.ofInt 32 c = (x ^^^ BitVec.ofInt 32 c) ^^^ BitVec.ofInt 32 (256 * r) by ac_rfl, iter_xor]
    congr 1
    obtain ⟨n, rfl⟩ := Int.eq_ofNat_of_zero_le hr.1
    have e : BitVec.ofInt 32 (256 * (n : Int)) = BitVec.ofNat 32 n <<< 8 := by
      apply BitVec.eq_of_toNat_eq
      rw [show (256 * (n : Int)) = ((256 * n : Nat) : Int) by simp, BitVec.ofInt_natCast, BitVec.toNat_ofNat, BitVec.toNat_shiftLeft, BitVec.toNat_ofNat, Nat.shiftLeft_eq]
      omega
    rw [e, iter8_shl]
    · rw [BitVec.ofInt_natCast]
      apply BitVec.eq_of_toNat_eq
      rw [BitVec.toNat_ushiftRight, BitVec.toNat_shiftLeft, BitVec.toNat_ofNat, Nat.shiftLeft_eq, Nat.shiftRight_eq_div_pow]
      omega
    · intro i hi
      rw [BitVec.getLsbD_shiftLeft]; simp [hi]
  · right
    rintro (h | h)
    · exact hr ⟨h.1, by have := h.2; omega⟩
    · exact hr h
theorem bs (x : BitVec 32) (c r : Int) (h0 : 0 ≤ r) (h1 : r < 16777216) : byteStep (x ^^^ BitVec.ofInt 32 (256 * r)) c = byteStep x c ^^^ BitVec.ofInt 32 r := by
  rcases byteStep_low x c r with h | h
  · exact h
  · exact absurd (Or.inr ⟨h0, h1⟩) h
theorem split_low (c r : Int) (hc : Byte c) (h0 : 0 ≤ r) : BitVec.ofInt 32 (c + 256 * r) = BitVec.ofInt 32 c ^^^ BitVec.ofInt 32 (256 * r) := by
  obtain ⟨n, rfl⟩ := Int.eq_ofNat_of_zero_le h0
  obtain ⟨m, rfl⟩ := Int.eq_ofNat_of_zero_le hc.1
  have hm : m < 256 := by have := hc.2; omega
  have e : BitVec.ofInt 32 (256 * (n : Int)) = BitVec.ofNat 32 n <<< 8 := by
    apply BitVec.eq_of_toNat_eq
    rw [show (256 * (n : Int)) = ((256 * n : Nat) : Int) by simp, BitVec.ofInt_natCast, BitVec.toNat_ofNat, BitVec.toNat_shiftLeft, BitVec.toNat_ofNat, Nat.shiftLeft_eq]
    omega
  have e2 : BitVec.ofInt 32 ((m : Int) + 256 * (n : Int)) = BitVec.ofNat 32 m + BitVec.ofNat 32 n <<< 8 := by
    apply BitVec.eq_of_toNat_eq
    rw [show ((m : Int) + 256 * (n : Int)) = ((m + 256 * n : Nat) : Int) by simp, BitVec.ofInt_natCast, BitVec.toNat_ofNat, BitVec.toNat_add, BitVec.toNat_shiftLeft, BitVec.toNat_ofNat, BitVec.toNat_ofNat, Nat.shiftLeft_eq]
    omega
  have hand : BitVec.ofNat 32 m &&& (BitVec.ofNat 32 n <<< 8) = 0#32 := by
    apply BitVec.eq_of_getLsbD_eq
    intro i hi
    rw [BitVec.getLsbD_and, BitVec.getLsbD_shiftLeft, BitVec.getLsbD_ofNat]
    by_cases h8 : i < 8
    · simp [h8]
    · have : m.testBit i = false := Nat.testBit_lt_two_pow (Nat.lt_of_lt_of_le hm (by
        have := Nat.pow_le_pow_right (show 0 < 2 by decide) (show 8 ≤ i by omega); simpa using this))
      simp [this]
  rw [e2, e, BitVec.ofInt_natCast, BitVec.add_eq_or_of_and_eq_zero _ _ hand]
  apply BitVec.eq_of_getLsbD_eq
  intro i hi
  have := congrArg (fun z : BitVec 32 => z.getLsbD i) hand
  simp only [BitVec.getLsbD_and, BitVec.getLsbD_zero] at this
  rw [BitVec.getLsbD_or, BitVec.getLsbD_xor]
  revert this
  cases (BitVec.ofNat 32 m).getLsbD i <;> cases (BitVec.ofNat 32 n <<< 8).getLsbD i <;> simp
theorem reg4 (x : BitVec 32) (a b c d : Int) (ha : Byte a) (hb : Byte b) (hc : Byte c) (hd : Byte d) : reg x [a, b, c, d] = iter one 32 (x ^^^ word a b c d) := by
  have e1 : word a b c d = BitVec.ofInt 32 a ^^^ BitVec.ofInt 32 (256 * (b + 256 * (c + 256 * d))) := by
    unfold word
    rw [show a + 256 * b + 65536 * c + 16777216 * d = a + 256 * (b + 256 * (c + 256 * d)) by omega]
    exact split_low a _ ha (by have := hb.1; have := hc.1; have := hd.1; omega)
  have hb0 := hb.1; have hb1 := hb.2; have hc0 := hc.1; have hc1 := hc.2; have hd0 := hd.1; have hd1 := hd.2
  have k1 : iter one 8 (x ^^^ word a b c d) = byteStep x a ^^^ BitVec.ofInt 32 (b + 256 * (c + 256 * d)) := by
    rw [e1, show x ^^^ (BitVec.ofInt 32 a ^^^ BitVec.ofInt 32 (256 * (b + 256 * (c + 256 * d)))) = (x ^^^ BitVec.ofInt 32 (256 * (b + 256 * (c + 256 * d)))) ^^^ BitVec.ofInt 32 a by ac_rfl]
    exact bs x a _ (by omega) (by omega)
  have k2 : iter one 8 (byteStep x a ^^^ BitVec.ofInt 32 (b + 256 * (c + 256 * d))) = byteStep (byteStep x a) b ^^^ BitVec.ofInt 32 (c + 256 * d) := by
    rw [split_low b _ hb (by omega), show byteStep x a ^^^ (BitVec.ofInt 32 b ^^^ BitVec.ofInt 32 (256 * (c + 256 * d))) = (byteStep x a ^^^ BitVec.ofInt 32 (256 * (c + 256 * d))) ^^^ BitVec.ofInt 32 b by ac_rfl]
    exact bs _ b _ (by omega) (by omega)
  have k3 : iter one 8 (byteStep (byteStep x a) b ^^^ BitVec.ofInt 32 (c + 256 * d)) = byteStep (byteStep (byteStep x a) b) c ^^^ BitVec.ofInt 32 d := by
    rw [split_low c _ hc (by omega), show byteStep (byteStep x a) b ^^^ (BitVec.ofInt 32 c ^^^ BitVec.ofInt 32 (256 * d)) = (byteStep (byteStep x a) b ^^^ BitVec.ofInt 32 (256 * d)) ^^^ BitVec.ofInt 32 c by ac_rfl]
    exact bs _ c _ (by omega) (by omega)
  have e : iter one 32 (x ^^^ word a b c d) = iter one 8 (iter one 8 (iter one 8 (iter one 8 (x ^^^ word a b c d)))) := by
    rw [← iter_add, ← iter_add, ← iter_add]
  rw [e, k1, k2, k3]
  rfl
def R : BitVec 32 := iter one 32 ones
theorem iter_inj (n : Nat) (a b : BitVec 32) (h : iter one n a = iter one n b) : a = b := by
  have : iter one n (a ^^^ b) = 0#32 := by rw [iter_xor, h]; simp
  have := iter_inj0 n _ this
  exact BitVec.xor_eq_zero_iff.mp this
/-- bytes and four more are good just where the register is R -/
theorem good_iff (l : List Int) (a b c d : Int) (ha : Byte a) (hb : Byte b) (hc : Byte c) (hd : Byte d) :
    [a, b, c, d] = sum4 (more 0#32 l) ↔ reg ones (l ++ [a, b, c, d]) = R := by
  rw [reg_append, reg4 _ _ _ _ _ ha hb hc hd]
  have hm : more 0#32 l = reg ones l ^^^ ones := by
    unfold more; rw [ones_not (reg _ _), ones_not 0#32]; simp
  constructor
  · intro h
    rw [sum4] at h
    injection h with h1 h; injection h with h2 h; injection h with h3 h; injection h with h4 h
    rw [h1, h2, h3, h4, word_sum4, hm]
    unfold R
    congr 1
    rw [← BitVec.xor_assoc]; simp
  · intro h
    unfold R at h
    have hw := iter_inj 32 _ _ h
    have hw : word a b c d = more 0#32 l := by
      rw [hm]
      generalize reg ones l = r at hw
      calc word a b c d = r ^^^ (r ^^^ word a b c d) := by rw [← BitVec.xor_assoc]; simp
        _ = r ^^^ ones := by rw [hw]
    have hn : ((more 0#32 l).toNat : Int) = a + 256 * b + 65536 * c + 16777216 * d := by
      rw [← hw]; unfold word
      obtain ⟨a, rfl⟩ := Int.eq_ofNat_of_zero_le ha.1
      obtain ⟨b, rfl⟩ := Int.eq_ofNat_of_zero_le hb.1
      obtain ⟨c, rfl⟩ := Int.eq_ofNat_of_zero_le hc.1
      obtain ⟨d, rfl⟩ := Int.eq_ofNat_of_zero_le hd.1
      rw [show (a : Int) + 256 * (b : Int) + 65536 * (c : Int) + 16777216 * (d : Int) = ((a + 256 * b + 65536 * c + 16777216 * d : Nat) : Int) by simp, BitVec.ofInt_natCast, BitVec.toNat_ofNat]
      have := ha.2; have := hb.2; have := hc.2; have := hd.2
      omega
    unfold sum4
    rw [hn]
    have := ha.1; have := hb.1; have := hc.1; have := hd.1
    have := ha.2; have := hb.2; have := hc.2; have := hd.2
    congr 1
    · omega
    congr 1
    · omega
    congr 1
    · omega
    congr 1
    omega

/-! ### 4. Bits turned -/
def par (x : BitVec 32) : Bool := (List.range 32).foldl (fun b i => b ^^ x.getLsbD i) false
theorem fold_xor (l : List Nat) (f g : Nat → Bool) : ∀ a b, l.foldl (fun b i => b ^^ (f i ^^ g i)) (a ^^ b) = (l.foldl (fun b i => b ^^ f i) a ^^ l.foldl (fun b i => b ^^ g i) b) := by
  induction l with
  | nil => intro a b; rfl
  | cons i l ih =>
    intro a b
    simp only [List.foldl_cons]
    rw [← ih]
    congr 1
    cases a <;> cases b <;> cases f i <;> cases g i <;> rfl
theorem par_xor (a b : BitVec 32) : par (a ^^^ b) = (par a ^^ par b) := by
  unfold par
  have := fold_xor (List.range 32) (fun i => a.getLsbD i) (fun i => b.getLsbD i) false false
  simp only [BitVec.getLsbD_xor]
  exact this
theorem par_shift (x : BitVec 32) : par (x >>> 1) = (par x ^^ x.getLsbD 0) := by
  unfold par
  have e : List.range 32 = List.range 31 ++ [31] := by decide
  have e2 : List.range 32 = 0 :: (List.range 31).map (· + 1) := by decide
  rw [show (List.range 32).foldl (fun b i => b ^^ (x >>> 1).getLsbD i) false = (List.range 31).foldl (fun b i => b ^^ (x >>> 1).getLsbD i) false by
    rw [e, List.foldl_append]; simp]
  rw [e2]
  simp only [List.foldl_cons, List.foldl_map, BitVec.getLsbD_ushiftRight]
  have key : ∀ (l : List Nat) (a c : Bool), l.foldl (fun b i => b ^^ x.getLsbD (1 + i)) a = (l.foldl (fun b i => b ^^ x.getLsbD (i + 1)) (a ^^ c) ^^ c) := by
    intro l
    induction l with
    | nil => intro a c; cases a <;> cases c <;> rfl
    | cons i l ih =>
      intro a c
      simp only [List.foldl_cons]
      rw [ih _ c, Nat.add_comm 1 i]
      congr 2
      cases a <;> cases c <;> cases x.getLsbD (i + 1) <;> rfl
  exact key _ _ _
theorem par_one (x : BitVec 32) : par (one x) = par x := by
  unfold one
  rw [par_xor, par_shift]
  cases h : x.getLsbD 0
  · have : par 0#32 = false := by decide
    simp [this]
  · have : par 0x82f63b78#32 = true := by decide
    simp [this]
theorem par_iter (n : Nat) (x : BitVec 32) : par (iter one n x) = par x := by
  induction n generalizing x with
  | zero => rfl
  | succ n ih => rw [iter, ih, par_one]
theorem par_ne (x : BitVec 32) (h : par x = true) : x ≠ 0#32 := by
  rintro rfl
  exact absurd h (by decide)

/-- bit k of bytes turned -/
def flip (l : List Int) (k : Nat) : List Int := l.set (k / 8) (xorI (l.getD (k / 8) 0) (2 ^ (k % 8)))
theorem flip_length (l : List Int) (k : Nat) : (flip l k).length = l.length := by simp [flip]
theorem pow_byte (k : Nat) : Byte (2 ^ (k % 8)) := by
  have : k % 8 < 8 := Nat.mod_lt _ (by decide)
  have h : ∀ j : Fin 8, Byte (2 ^ j.val) := by unfold Byte; decide
  exact h ⟨_, this⟩
theorem set_bytes (l : List Int) (k : Nat) (c : Int) (hl : ∀ c ∈ l, Byte c) (hc : Byte c) : ∀ x ∈ l.set k c, Byte x := by
  intro x hx
  rcases List.mem_or_eq_of_mem_set hx with h | rfl
  · exact hl x h
  · exact hc
theorem flip_bytes (l : List Int) (k : Nat) (hl : ∀ c ∈ l, Byte c) : ∀ c ∈ flip l k, Byte c := set_bytes l _ _ hl (xorI_byte _ _)
theorem iter_pow (j : Nat) (hj : j < 32) : iter one j (1#32 <<< j) = 1#32 := by
  have : ∀ j : Fin 32, iter one j.val (1#32 <<< j.val) = 1#32 := by decide
  exact this ⟨j, hj⟩
theorem reg_flip (l : List Int) (k : Nat) (hk : k < 8 * l.length) (x : BitVec 32) (hl : ∀ c ∈ l, Byte c) :
    reg x (flip l k) = reg x l ^^^ iter one (8 * l.length - k) 1#32 := by
  unfold flip
  rw [reg_set l (k / 8) (by omega) x _ hl (pow_byte k)]
  congr 1
  have h8 : k % 8 < 8 := Nat.mod_lt _ (by decide)
  have e : 8 * (l.length - k / 8) = k % 8 + (8 * l.length - k) := by omega
  rw [e, iter_add]
  congr 1
  have : ∀ j : Fin 8, BitVec.ofInt 32 (2 ^ j.val) = 1#32 <<< j.val := by decide
  rw [this ⟨k % 8, h8⟩]
  exact iter_pow _ (by omega)
/-- three bits turned: never good -/
theorem three_ne (l : List Int) (a b c : Nat) (ha : a < 8 * l.length) (hb : b < 8 * l.length) (hc : c < 8 * l.length) (x : BitVec 32) (hl : ∀ c ∈ l, Byte c) :
    reg x (flip (flip (flip l a) b) c) ≠ reg x l := by
  have h1 := flip_bytes l a hl
  have h2 := flip_bytes _ b h1
  rw [reg_flip _ c (by simpa [flip_length] using hc) x h2, reg_flip _ b (by simpa [flip_length] using hb) x h1, reg_flip _ a ha x hl]
  intro h
  have hp := congrArg par h
  simp only [par_xor, par_iter] at hp
  have : par 1#32 = true := by decide
  rw [this] at hp
  revert hp
  cases par (reg x l) <;> decide
/-- turned by a pattern, from bit k on -/
def burst (l : List Int) (k : Nat) (p : BitVec 32) : Nat → List Int
  | 0 => l
  | i + 1 => if p.getLsbD i then flip (burst l k p i) (k + i) else burst l k p i
theorem burst_length (l : List Int) (k : Nat) (p : BitVec 32) (i : Nat) : (burst l k p i).length = l.length := by
  induction i with
  | zero => rfl
  | succ i ih => unfold burst; split <;> simp [flip_length, ih]
theorem burst_bytes (l : List Int) (k : Nat) (p : BitVec 32) (i : Nat) (hl : ∀ c ∈ l, Byte c) : ∀ c ∈ burst l k p i, Byte c := by
  induction i with
  | zero => exact hl
  | succ i ih =>
    unfold burst
    split
    · exact flip_bytes _ _ ih
    · exact ih
def low (p : BitVec 32) (i : Nat) : BitVec 32 := p &&& BitVec.ofNat 32 (2 ^ i - 1)
theorem low_bit (p : BitVec 32) (i j : Nat) (hi : i ≤ 32) : (low p i).getLsbD j = (p.getLsbD j && decide (j < i)) := by
  unfold low
  rw [BitVec.getLsbD_and, BitVec.getLsbD_ofNat, Nat.testBit_two_pow_sub_one]
  by_cases h : j < i
  · simp [h]; intro _; omega
  · simp [h]
theorem low_succ (p : BitVec 32) (i : Nat) (hi : i < 32) : low p (i + 1) = low p i ^^^ (if p.getLsbD i then 1#32 <<< i else 0#32) := by
  apply BitVec.eq_of_getLsbD_eq
  intro j hj
  rw [BitVec.getLsbD_xor, low_bit _ _ _ (by omega), low_bit _ _ _ (by omega)]
  by_cases h : j = i
  · subst h
    cases hp : p.getLsbD j <;> simp [hj]
  · have e : (1#32 <<< i).getLsbD j = false := by
      rw [BitVec.getLsbD_shiftLeft, BitVec.getLsbD_one]; simp; intro _ _; omega
    have e2 : decide (j < i + 1) = decide (j < i) := by
      by_cases h2 : j < i
      · simp [h2]; omega
      · simp [h2]; omega
    rw [e2]
    split <;> simp [e]
theorem low_zero (p : BitVec 32) : low p 0 = 0#32 := by unfold low; simp
theorem low_all (p : BitVec 32) : low p 32 = p := by
  apply BitVec.eq_of_getLsbD_eq
  intro j hj
  rw [low_bit _ _ _ (by omega)]; simp [hj]
theorem reg_burst (l : List Int) (k : Nat) (hk : k + 32 ≤ 8 * l.length) (p x : BitVec 32) (hl : ∀ c ∈ l, Byte c) (i : Nat) (hi : i ≤ 32) :
    reg x (burst l k p i) = reg x l ^^^ iter one (8 * l.length - k) (low p i) := by
  induction i with
  | zero => rw [low_zero, iter_zero]; simp [burst]
  | succ i ih =>
    have ih := ih (by omega)
    rw [low_succ _ _ (by omega), iter_xor, ← BitVec.xor_assoc, ← ih]
    by_cases hp : p.getLsbD i = true
    · rw [if_pos hp, show burst l k p (i + 1) = flip (burst l k p i) (k + i) by rw [burst, if_pos hp]]
      rw [reg_flip _ _ (by rw [burst_length]; omega) x (burst_bytes l k p i hl), burst_length]
      congr 1
      rw [show 8 * l.length - k = i + (8 * l.length - (k + i)) by omega, iter_add, iter_pow _ (by omega)]
    · rw [if_neg hp, show burst l k p (i + 1) = burst l k p i by rw [burst, if_neg hp], iter_zero]; simp
theorem burst_ne (l : List Int) (k : Nat) (hk : k + 32 ≤ 8 * l.length) (p x : BitVec 32) (hp : p ≠ 0#32) (hl : ∀ c ∈ l, Byte c) : reg x (burst l k p 32) ≠ reg x l := by
  rw [reg_burst l k hk p x hl 32 (by omega), low_all]
  intro h
  apply hp
  apply iter_inj0 (8 * l.length - k)
  have h2 := congrArg (fun z => reg x l ^^^ z) h
  simp only [← BitVec.xor_assoc, BitVec.xor_self, BitVec.zero_xor] at h2
  exact h2
/-- one byte turned -/
theorem set_ne (l : List Int) (k : Nat) (hk : k < l.length) (x : BitVec 32) (c : Int) (hl : ∀ c ∈ l, Byte c) (hc : Byte c) (h0 : c ≠ 0) : reg x (l.set k (xorI (l.getD k 0) c)) ≠ reg x l := by
  rw [reg_set l k hk x c hl hc]
  intro h
  have h2 := congrArg (fun z => reg x l ^^^ z) h
  simp only [← BitVec.xor_assoc, BitVec.xor_self, BitVec.zero_xor] at h2
  have h3 := iter_inj0 _ _ h2
  apply h0
  obtain ⟨n, rfl⟩ := Int.eq_ofNat_of_zero_le hc.1
  have := congrArg BitVec.toNat h3
  rw [BitVec.ofInt_natCast, BitVec.toNat_ofNat] at this
  have := hc.2
  simp at *
  omega

/-! ### 5. Many noughts at once: a table of what they do to each bit -/
def ofTable (t : List (BitVec 32)) (x : BitVec 32) : Nat → BitVec 32
  | 0 => 0#32
  | i + 1 => ofTable t x i ^^^ (if x.getLsbD i then t.getD i 0#32 else 0#32)
def Tells (t : List (BitVec 32)) (n : Nat) : Prop := t.length = 32 ∧ ∀ i, i < 32 → t.getD i 0#32 = iter one n (1#32 <<< i)
theorem ofTable_low (t : List (BitVec 32)) (n : Nat) (h : Tells t n) (x : BitVec 32) (i : Nat) (hi : i ≤ 32) : ofTable t x i = iter one n (low x i) := by
  induction i with
  | zero => rw [low_zero, iter_zero]; rfl
  | succ i ih =>
    rw [ofTable, ih (by omega), low_succ _ _ (by omega), iter_xor]
    congr 1
    split
    · exact h.2 i (by omega)
    · rw [iter_zero]
theorem ofTable_all (t : List (BitVec 32)) (n : Nat) (h : Tells t n) (x : BitVec 32) : ofTable t x 32 = iter one n x := by
  rw [ofTable_low t n h x 32 (by omega), low_all]
def twice (t : List (BitVec 32)) : List (BitVec 32) := t.map fun y => ofTable t y 32
theorem twice_tells (t : List (BitVec 32)) (n : Nat) (h : Tells t n) : Tells (twice t) (2 * n) := by
  refine ⟨by simp [twice, h.1], fun i hi => ?_⟩
  have hl := h.1
  have e : (twice t).getD i 0#32 = ofTable t (t.getD i 0#32) 32 := by
    simp [twice, List.getD_eq_getElem?_getD, List.getElem?_eq_getElem (show i < t.length by omega)]
  rw [e, ofTable_all t n h, h.2 i hi, ← iter_add, show n + n = 2 * n by omega]
def first8 : List (BitVec 32) := (List.range 32).map fun i => iter one 8 (1#32 <<< i)
theorem first8_tells : Tells first8 8 := by
  refine ⟨by simp [first8], fun i hi => ?_⟩
  simp [first8, List.getD_eq_getElem?_getD, hi]
end Go.Proofs.YtmgnabfmmmagkaaDoor.Crc
