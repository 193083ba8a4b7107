/-
  The walks of package sum's one, table.of and Noughts, at this seat's numbers.
-/
import Derived.Test.YtmgnabfmmmagkaaDoorSumC
import Derived.Laws.Rows
import Derived.Laws.Tables
set_option linter.unusedVariables false
set_option linter.unusedSimpArgs false
namespace Go.Proofs.YtmgnabfmmmagkaaDoor
open Go Go.RowKit Crc

theorem ret_u32 {a b : Int} (h : a = b) : Ending.returned (.int .u32 a) = .returned (.int .u32 b) := by rw [h]
theorem one_any (x : BitVec 32) (w : World) :
    Calls Tryd.prog 21 #[.int .u32 (reg32 x)] w fun e w' => e = .returned (.int .u32 (reg32 (one x))) ∧ w = w' := by
  have b0 := u32_lo x
  have b1 := u32_hi x
  go_enter Tryd.func21, Tryd.ntmps21
  go_wp2
  go_ret
  exact ⟨ret_u32 (one_eq x), rfl⟩
/-- a table of a register's bits in a block -/
structure Tab (w : World) (g : Nat) (l : List (BitVec 32)) : Prop where
  len : l.length = 32
  row : w.heap[g]? = some (.cells (l.map fun x => Value.int .u32 (reg32 x)).toArray 49 (0, 0))
theorem Tab.cell {w : World} {g : Nat} {l : List (BitVec 32)} (h : Tab w g l) (j : Nat) (hj : j < 32) : w.cell? ⟨g, j, none⟩ = some (.int .u32 (reg32 (l.getD j 0#32))) := by
  rw [cell_of_row w g j _ _ _ h.row]
  have := h.len
  simp [List.getD_eq_getElem?_getD, List.getElem?_eq_getElem (show j < l.length by omega)]
theorem Tab.drewN {w : World} {g : Nat} {l : List (BitVec 32)} (h : Tab w g l) (n : Nat) : Tab (w.drewN n) g l := ⟨h.len, h.row⟩
set_option maxHeartbeats 1000000 in
theorem of_any (g : Nat) (l : List (BitVec 32)) (x : BitVec 32) (w : World) (ht : Tab w g l) :
    Calls Tryd.prog 22 #[.pointer (some ⟨g, 0, none⟩), .int .u32 (reg32 x)] w fun e w' => e = .returned (.int .u32 (reg32 (ofTable l x 32))) ∧ ∃ k, w' = w.drewN k := by
  have HT := Lib.hid ht
  clear ht
  go_enter Tryd.func22, Tryd.ntmps22
  go_wp2
  go_loopw [5, 9] (fun o i wr => ∃ k m : Nat, k ≤ 32 ∧ i = .int .i64 k ∧ o = .int .u32 (reg32 (ofTable l x k)) ∧ wr = w.drewN m) (fun _ i _ => 32 - (intOf i).toNat)
  case atStart => exact ⟨0, 0, by omega, rfl, rfl, rfl⟩
  case round =>
    obtain ⟨k, m, hk, rfl, rfl, rfl⟩ := hrel
    by_cases hlt : k < 32
    · have c0 := HT.out.cell k hlt
      generalize hO : ofTable l x k = O at *
      generalize hY : l.getD k 0#32 = Y at *
      have i1 : (k : Int) < 32 := by omega
      go_wp2
      go_quiet (fail)
      go_wp2
      go_roundw
      case rel => exact ⟨k + 1, _, by omega, by go_num, by rw [of_eq, ← hO, ← hY]; rfl, rfl⟩
      case measure => simp [intOf]; omega
    · obtain rfl : k = 32 := by omega
      go_wp2
      go_ret
      exact ⟨rfl, m, rfl⟩
theorem Tab.free {w : World} {g : Nat} {l : List (BitVec 32)} (h : Tab w g l) (j : Nat) : w.frozen? ⟨g, j, none⟩ = false := frozen_of_row w g j _ _ h.row
theorem Tab.set {w : World} {g : Nat} {l : List (BitVec 32)} (h : Tab w g l) (j : Nat) (y : BitVec 32) : Tab (w.setCell ⟨g, j, none⟩ (.int .u32 (reg32 y))) g (l.set j y) := by
  refine ⟨by rw [List.length_set]; exact h.len, ?_⟩
  rw [heap_setCell_same w g j _ _ _ h.row]
  congr 2
  simp [List.map_set]
theorem Tab.below {w w' : World} {g : Nat} {l : List (BitVec 32)} {B : Nat} (h : Tab w g l) (hb : Below B w w') (hg : g < B) : Tab w' g l := ⟨h.len, (hb.block g hg).trans h.row⟩
theorem Tab.lt {w : World} {g : Nat} {l : List (BitVec 32)} (h : Tab w g l) : g < w.heap.size := (Array.getElem?_eq_some_iff.1 h.row).1
theorem Tab.other {w : World} {g g' : Nat} {l : List (BitVec 32)} (h : Tab w g l) (j : Nat) (v : Value) (hne : g ≠ g') : Tab (w.setCell ⟨g', j, none⟩ v) g l := ⟨h.len, (heap_setCell_other w ⟨g', j, none⟩ g v hne).trans h.row⟩
theorem Tab.otherRow {w : World} {g g' : Nat} {l : List (BitVec 32)} (h : Tab w g l) (cs : Array Value) (hne : g ≠ g') : Tab (w.setRow g' cs) g l := ⟨h.len, (setRow_other w g' g cs hne).trans h.row⟩
theorem Tab.alloc {w : World} {g : Nat} {l : List (BitVec 32)} (h : Tab w g l) (o : Obj) : Tab (w.alloc o) g l := ⟨h.len, (Below.heap_alloc w o g h.lt).trans h.row⟩
def rowV (l : List (BitVec 32)) : Array Value := (l.map fun x => Value.int .u32 (reg32 x)).toArray
theorem Tab.setRow {w : World} {g : Nat} {l l' : List (BitVec 32)} (h : Tab w g l) (hl : l'.length = 32) : Tab (w.setRow g (rowV l')) g l' := ⟨hl, setRow_heap w g _ _ _ _ h.row⟩
def zeros32 : List (BitVec 32) := List.replicate 32 0#32
theorem tab_zeros (w : World) : Tab (w.alloc (.cells (rowV zeros32) 49)) w.heap.size zeros32 := ⟨rfl, heap_alloc_new w _⟩
def filled (k : Nat) : List (BitVec 32) := first8.take k ++ List.replicate (32 - k) 0#32
theorem filled_zero : filled 0 = zeros32 := rfl
theorem filled_all : filled 32 = first8 := by
  unfold filled
  rw [List.take_of_length_le (by simp [first8])]; simp
theorem filled_step (k : Nat) (hk : k < 32) : filled (k + 1) = (filled k).set k (iter one 8 (1#32 <<< k)) := by
  have : ∀ k : Fin 32, filled (k.val + 1) = (filled k.val).set k.val (iter one 8 (1#32 <<< k.val)) := by decide +kernel
  exact this ⟨k, hk⟩
theorem pow_u32 (k : Nat) (hk : k < 32) : (2 : Int) ^ k % 4294967296 = reg32 (1#32 <<< k) := by
  have : ∀ k : Fin 32, (2 : Int) ^ k.val % 4294967296 = reg32 (1#32 <<< k.val) := by decide +kernel
  exact this ⟨k, hk⟩
def mixed (T : List (BitVec 32)) (k : Nat) : List (BitVec 32) := (twice T).take k ++ T.drop k
theorem mixed_zero (T : List (BitVec 32)) : mixed T 0 = T := by simp [mixed]
theorem mixed_all (T : List (BitVec 32)) (h : T.length = 32) : mixed T 32 = twice T := by
  unfold mixed
  rw [List.take_of_length_le (by simp [twice, h]), List.drop_of_length_le (by omega)]; simp
theorem mixed_length (T : List (BitVec 32)) (k : Nat) (h : T.length = 32) (hk : k ≤ 32) : (mixed T k).length = 32 := by simp [mixed, twice, h]; omega
theorem mixed_step (T : List (BitVec 32)) (k : Nat) (h : T.length = 32) (hk : k < 32) : mixed T (k + 1) = (mixed T k).set k (ofTable T (T.getD k 0#32) 32) := by
  have ht : (twice T).length = 32 := by simp [twice, h]
  have hlen : ((twice T).take k).length = k := by simp; omega
  have e : (twice T)[k]'(by omega) = ofTable T (T.getD k 0#32) 32 := by
    simp [twice, List.getD_eq_getElem?_getD, List.getElem?_eq_getElem (show k < T.length by omega)]
  unfold mixed
  rw [List.take_succ_eq_append_getElem (by omega), List.append_assoc, List.set_append_right _ _ (by omega), hlen, Nat.sub_self, e,
    show T.drop k = T[k]'(by omega) :: T.drop (k + 1) from List.drop_eq_getElem_cons (by omega), List.set_cons_zero]
  rfl
theorem min2_run (P : Program) (ats : Array TypeId) (ty : TypeId) (a b : Int) (W : World) :
    (Builtin.min_ ats ty #[.int .i64 a, .int .i64 b]).run P W = .ok (.int .i64 (min a b)) W := by
  have e2 : ∀ x y : Int, Builtin.min2 (.int .i64 x) (.int .i64 y) = pure (.int .i64 (min x y)) := by
    intro x y
    simp only [Builtin.min2]
    congr 2
    split <;> omega
  simp only [Builtin.min_, List.foldlM_cons, List.foldlM_nil, e2, Sem.run_bind, Sem.run_pure, Result.andThen, pure_bind]
theorem and1_i64 (q : Nat) (h : q ≤ 9223372036854775807) : (bits .and .i64 (q : Int) 1 == 1) = decide (q % 2 = 1) := by
  have e : bits .and .i64 (q : Int) 1 = ((q % 2 : Nat) : Int) := by
    show IntKind.i64.wrap (((BitVec.ofInt 64 (q : Int)) &&& 1#64).toNat : Int) = _
    rw [BitVec.toNat_and, BitVec.ofInt_natCast, BitVec.toNat_ofNat]
    have := Nat.and_two_pow_sub_one_eq_mod (q % 2 ^ 64) 1
    rw [show (1#64).toNat = 2 ^ 1 - 1 from rfl, this, IntKind.wrap_i64]
    omega
  rw [e, Bool.eq_iff_iff, beq_iff_eq, decide_eq_true_eq]
  omega
theorem Tryd.sizeT : (Tryd.prog.info? 49).map (·.size) = some 32 := by kernel_rfl
theorem rowV_size {T : List (BitVec 32)} (h : T.length = 32) : (rowV T).size = 32 := by simp [rowV, h]
theorem rowV_one (T : List (BitVec 32)) : (rowV T).all (·.oneCell') = true := by
  unfold rowV
  rw [List.all_toArray, List.all_map, List.all_eq_true]
  intro x _
  rfl
theorem Tab.grown {w w' : World} {g : Nat} {l : List (BitVec 32)} {row : Option Nat} (h : Tab w g l) (hg : w.grownBy w' row) (hne : some g ≠ row) : Tab w' g l := ⟨h.len, (hg.block g h.lt hne).trans h.row⟩
theorem load_tab {ops : Array Oper} {rest : List Oper} {o : Oper} {a : Act} {Q : Exit → Act → World → Prop} {w : World} (hgd : o.guard = none) (x : Operand) (ho : o.op = .load 49 x)
    (g : Nat) (T : List (BitVec 32)) (hx : a.eval x = .pointer (some ⟨g, 0, none⟩)) (ht : Tab w g T) (h : wpList Tryd.prog ops Q rest (a.put o.dst (.agg (rowV T))) w) : wpList Tryd.prog ops Q (o :: rest) a w :=
  wpList_load_row hgd 49 x ho g hx 49 (rowV T) (0, 0) _ ht.row Tryd.underlying49 rfl (by rw [Tryd.sizeT, rowV_size ht.len]) h
theorem store_tab {ops : Array Oper} {rest : List Oper} {o : Oper} {a : Act} {Q : Exit → Act → World → Prop} {w : World} (hgd : o.guard = none) (x y : Operand) (ho : o.op = .store 49 x y)
    (g : Nat) (T T' : List (BitVec 32)) (hx : a.eval x = .pointer (some ⟨g, 0, none⟩)) (hy : a.eval y = .agg (rowV T')) (ht : Tab w g T) (hl : T'.length = 32)
    (h : ∀ w', Tab w' g T' → w.grownBy w' (some g) → wpList Tryd.prog ops Q rest (a.put o.dst undef) w') : wpList Tryd.prog ops Q (o :: rest) a w :=
  wpList_store_row hgd 49 x y ho g (rowV T') hx hy 49 _ ht.row (by rw [Tryd.sizeT, rowV_size hl]) (by rw [rowV_size hl]; simpa using ht.len) (rowV_one _)
    (h _ (ht.setRow hl) ⟨rfl, rfl, rfl, by simp, fun k hk hne => setRow_other w g k _ (fun e => hne (by rw [e]))⟩)
/-- what the whole function answers -/
def noughtsOf (s : BitVec 32) (n : Nat) : BitVec 32 := notb (iter one (8 * n) (notb s))
theorem odd_step (X : BitVec 32) (N c q : Nat) (s : BitVec 32) (T : List (BitVec 32)) (ht : Tells T c) (ho : q % 2 = 1) (h : iter one (c * ((q : Int)).toNat) X = iter one (8 * N) (notb s)) : iter one (2 * c * (((q : Int) / 2)).toNat) (ofTable T X 32) = iter one (8 * N) (notb s) := by
  rw [ofTable_all T c ht, ← iter_add, ← h]
  congr 1
  rw [show ((q : Int)).toNat = q from rfl, show ((q : Int) / 2).toNat = q / 2 by omega]
  have e : q = 2 * (q / 2) + 1 := by omega
  generalize q / 2 = r at *
  subst e
  rw [Nat.mul_add, Nat.mul_one, ← Nat.mul_assoc, Nat.mul_comm c 2]; omega
theorem even_step (X : BitVec 32) (N c q : Nat) (s : BitVec 32) (ho : q % 2 = 0) (h : iter one (c * ((q : Int)).toNat) X = iter one (8 * N) (notb s)) : iter one (2 * c * (((q : Int) / 2)).toNat) X = iter one (8 * N) (notb s) := by
  rw [← h]
  congr 1
  rw [show ((q : Int)).toNat = q from rfl, show ((q : Int) / 2).toNat = q / 2 by omega]
  have e : q = 2 * (q / 2) := by omega
  generalize q / 2 = r at *
  subst e
  rw [← Nat.mul_assoc, Nat.mul_comm c 2]
set_option maxRecDepth 100000 in
set_option maxHeartbeats 4000000 in
theorem noughts_any (s : BitVec 32) (n : Int) (w : World) (hn : -9223372036854775808 ≤ n ∧ n ≤ 9223372036854775807) :
    Calls Tryd.prog 16 #[.int .u32 (reg32 s), .int .i64 n] w fun e w' => e = .returned (.int .u32 (reg32 (noughtsOf s (min n 1099511627776).toNat))) ∧ Below w.heap.size w w' := by
  obtain ⟨hn0, hn1⟩ := hn
  have E0 := not32 s
  have hmin : ∀ W, (Builtin.min_ #[3, 3] 3 #[.int .i64 n, .int .i64 1099511627776]).run Tryd.prog W = .ok (.int .i64 (min n 1099511627776)) W := min2_run Tryd.prog _ _ n 1099511627776
  obtain ⟨N, hN⟩ : ∃ N : Nat, (min n 1099511627776).toNat = N := ⟨_, rfl⟩
  obtain ⟨q0, hq0, hq1, hq2⟩ : ∃ q0 : Int, min n 1099511627776 = q0 ∧ q0.toNat = N ∧ q0 ≤ 1099511627776 ∧ -9223372036854775808 ≤ q0 := ⟨_, rfl, hN, by omega, by omega⟩
  rw [hN]
  clear hN
  rw [hq0] at hmin
  clear hq0
  have Hq1 := Lib.hid hq1
  have Hq2 := Lib.hid hq2
  clear hq1 hq2
  go_enter Tryd.func16, Tryd.ntmps16
  go_wp2
  go_loopw [11] (fun i wr => ∃ k : Nat, k ≤ 32 ∧ i = .int .i64 k ∧ Tab wr w.heap.size (filled k) ∧ Below w.heap.size w wr) (fun i _ => 32 - (intOf i).toNat)
  case atStart => exact ⟨0, by omega, rfl, tab_zeros w, balloc (Below.refl _ _) _⟩
  case round =>
    obtain ⟨k, hk, rfl, ht, hB⟩ := hrel
    have HT := Lib.hid ht
    have HB := Lib.hid hB
    clear ht hB
    obtain ⟨wo, rfl⟩ : ∃ wo : World, wo = wr := ⟨_, rfl⟩
    by_cases hlt : k < 32
    · have e1 := Lib.hid (pow_u32 k hlt)
      have hd : decide ((k : Int) < 32) = true := by simp; omega
      have HF := Lib.hid (filled_step k hlt)
      have c0 := HT.out.cell k hlt
      have f0 := HT.out.free k
      generalize (filled k).getD k 0#32 = V at *
      go_wp2
      go_loop [7, 16] (fun x i => ∃ m : Nat, m ≤ 8 ∧ i = .int .i64 m ∧ x = .int .u32 (reg32 (iter one m (1#32 <<< k)))) (fun _ i => 8 - (intOf i).toNat)
      case atStart => exact ⟨0, by omega, rfl, by rw [e1.out]; rfl⟩
      case round =>
        obtain ⟨m, hm, rfl, rfl⟩ := hrel
        by_cases hlm : m < 8
        · have HI := Lib.hid (iter_succ' one m (1#32 <<< k))
          generalize iter one m (1#32 <<< k) = Y at *
          go_wp2_with (go_at_call 21; refine (one_any Y _).mono ?_; rintro e w' ⟨rfl, rfl⟩)
          go_round
          case rel => exact ⟨m + 1, by omega, by go_num, by rw [HI.out]⟩
          case measure => simp [intOf]; omega
        · obtain rfl : m = 8 := by omega
          generalize hY : iter one 8 (1#32 <<< k) = Y at *
          go_wp2
          go_roundw
          case rel => exact ⟨k + 1, by omega, by go_num, by rw [HF.out]; exact HT.out.set k Y, HB.out.setCell (Nat.le_refl _) _⟩
          case measure => simp [intOf]; omega
    · obtain rfl : k = 32 := by omega
      rw [filled_all] at HT
      go_wp2
      go_loopw [1, 8] (fun nv x wr => ∃ (q : Int) (c : Nat) (X : BitVec 32) (T : List (BitVec 32)), nv = .int .i64 q ∧ q ≤ 1099511627776 ∧ -9223372036854775808 ≤ q ∧ x = .int .u32 (reg32 X) ∧ Tab wr w.heap.size T ∧ Tells T c ∧ iter one (c * q.toNat) X = iter one (8 * N) (notb s) ∧ Below w.heap.size w wr) (fun nv _ _ => (intOf nv).toNat)
      case atStart => exact ⟨q0, 8, notb s, first8, rfl, Hq2.out.1, Hq2.out.2, rfl, HT.out, first8_tells, by rw [Hq1.out], HB.out⟩
      case round =>
        obtain ⟨q, c, X, T, rfl, hqa, hqb, rfl, ht, htells, hX, hB⟩ := hrel
        have HT3 := Lib.hid ht
        have HTl := Lib.hid htells
        have HX := Lib.hid hX
        have HB3 := Lib.hid hB
        clear ht htells hX hB
        by_cases hq : 0 < q
        · obtain ⟨q, rfl⟩ := Int.eq_ofNat_of_zero_le (show 0 ≤ q by omega)
          have hb1 := and1_i64 q (by omega)
          have E8 := Lib.hid (ofTable_all T c HTl.out X)
          obtain ⟨wo2, rfl⟩ : ∃ wo2 : World, wo2 = wr := ⟨_, rfl⟩
          have hodd : q % 2 = 1 ∨ q % 2 = 0 := by omega
          rcases hodd with ho | ho
          · have hb : (bits .and .i64 (q : Int) 1 == 1) = true := by rw [hb1, ho]; rfl
            clear hb1
            have HX5 := Lib.hid (odd_step X N c q s T HTl.out ho HX.out)
            go_wp2_with (first | (go_at_call 22; refine (of_any w.heap.size T X _ HT3.out).mono ?_; rintro e w5 ⟨rfl, kd, hd⟩; have HT5 : Hid (Tab w5 w.heap.size T) := Lib.hid (by rw [hd]; exact HT3.out.drewN kd); have HB5 : Hid (Below w.heap.size w w5) := Lib.hid (by rw [hd]; exact below_drewN HB3.out kd); clear hd) | (refine load_tab rfl _ rfl w.heap.size T rfl ?_ ?_; with_reducible exact HT5.out) | (refine store_tab rfl _ _ rfl w5.heap.size zeros32 T rfl rfl ?_ ?_ ?_; exact tab_zeros w5; exact HT5.out.len; intro w6 ht hg; have HU6 := Lib.hid ht; have HT6 := Lib.hid (Tab.grown (HT5.out.alloc _) hg (fun e => by have := HT5.out.lt; injection e; omega)); have HB6 := Lib.hid (Below.grown (balloc HB5.out _) hg (by have := HB5.out.size; simp; omega) (fun k hk => by have := HB5.out.size; injection hk; omega)); clear ht hg))
            have hne : w.heap.size < w5.heap.size := HT5.out.lt
            have hTl := Lib.hid HT5.out.len
            go_loopw [39] (fun i wz => ∃ k : Nat, k ≤ 32 ∧ i = .int .i64 k ∧ Tab wz w.heap.size T ∧ Tab wz w5.heap.size (mixed T k) ∧ Below w.heap.size w wz) (fun i _ => 32 - (intOf i).toNat)
            case atStart => exact ⟨0, by omega, rfl, HT6.out, by rw [mixed_zero]; exact HU6.out, HB6.out⟩
            case round =>
              obtain ⟨k, hk, rfl, ht, hu, hB⟩ := hrel
              have HTz := Lib.hid ht
              have HUz := Lib.hid hu
              have HBz := Lib.hid hB
              clear ht hu hB
              by_cases hlk : k < 32
              · have hd : decide ((k : Int) < 32) = true := by simp; omega
                have c0 := HTz.out.cell k hlk
                have HM := Lib.hid (mixed_step T k hTl.out hlk)
                have HOf := Lib.hid (of_any w.heap.size T (T.getD k 0#32) wr HTz.out)
                generalize T.getD k 0#32 = Y at *
                generalize ofTable T Y 32 = Z at *
                go_wp2_with (go_at_call 22; refine (HOf.out).mono ?_; rintro e w7 ⟨rfl, kd, hd⟩; have HT7 : Hid (Tab w7 w.heap.size T) := Lib.hid (by rw [hd]; exact HTz.out.drewN kd); have HU7 : Hid (Tab w7 w5.heap.size (mixed T k)) := Lib.hid (by rw [hd]; exact HUz.out.drewN kd); have HB7 : Hid (Below w.heap.size w w7) := Lib.hid (by rw [hd]; exact below_drewN HBz.out kd); have c7 := HU7.out.cell k hlk; have f7 := HU7.out.free k; clear hd)
                go_roundw
                case rel => exact ⟨k + 1, by omega, by go_num, HT7.out.other k _ (Nat.ne_of_lt hne), by rw [HM.out]; exact HU7.out.set k Z, HB7.out.setCell (Nat.le_of_lt hne) _⟩
                case measure => simp [intOf]; omega
              · obtain rfl : k = 32 := by omega
                rw [mixed_all T hTl.out] at HUz
                go_wp2_with (first | (refine load_tab rfl _ rfl w5.heap.size (twice T) rfl ?_ ?_; with_reducible exact HUz.out) | (refine store_tab rfl _ _ rfl w.heap.size T (twice T) rfl rfl ?_ ?_ ?_; with_reducible exact HTz.out; exact HUz.out.len; intro w8 ht hg; have HT8 := Lib.hid ht; have HB8 := Lib.hid (Below.grown HBz.out hg HBz.out.size (fun k hk => by injection hk; omega)); clear ht hg))
                go_roundw
                case rel => exact ⟨(q : Int) / 2, 2 * c, ofTable T X 32, twice T, rfl, by omega, by omega, rfl, HT8.out, twice_tells T c HTl.out, HX5.out, HB8.out⟩
                case measure => simp [intOf]; omega
          · have hb : (bits .and .i64 (q : Int) 1 == 1) = false := by rw [hb1, ho]; rfl
            clear hb1
            have HX5 := Lib.hid (even_step X N c q s ho HX.out)
            have HT5 := HT3
            have HB5 := HB3
            obtain ⟨w5, rfl⟩ : ∃ w5 : World, w5 = wo2 := ⟨_, rfl⟩
            go_wp2_with (first | (refine load_tab rfl _ rfl w.heap.size T rfl ?_ ?_; with_reducible exact HT5.out) | (refine store_tab rfl _ _ rfl w5.heap.size zeros32 T rfl rfl ?_ ?_ ?_; exact tab_zeros w5; exact HT5.out.len; intro w6 ht hg; have HU6 := Lib.hid ht; have HT6 := Lib.hid (Tab.grown (HT5.out.alloc _) hg (fun e => by have := HT5.out.lt; injection e; omega)); have HB6 := Lib.hid (Below.grown (balloc HB5.out _) hg (by have := HB5.out.size; simp; omega) (fun k hk => by have := HB5.out.size; injection hk; omega)); clear ht hg))
            have hne : w.heap.size < w5.heap.size := HT5.out.lt
            have hTl := Lib.hid HT5.out.len
            go_loopw [39] (fun i wz => ∃ k : Nat, k ≤ 32 ∧ i = .int .i64 k ∧ Tab wz w.heap.size T ∧ Tab wz w5.heap.size (mixed T k) ∧ Below w.heap.size w wz) (fun i _ => 32 - (intOf i).toNat)
            case atStart => exact ⟨0, by omega, rfl, HT6.out, by rw [mixed_zero]; exact HU6.out, HB6.out⟩
            case round =>
              obtain ⟨k, hk, rfl, ht, hu, hB⟩ := hrel
              have HTz := Lib.hid ht
              have HUz := Lib.hid hu
              have HBz := Lib.hid hB
              clear ht hu hB
              by_cases hlk : k < 32
              · have hd : decide ((k : Int) < 32) = true := by simp; omega
                have c0 := HTz.out.cell k hlk
                have HM := Lib.hid (mixed_step T k hTl.out hlk)
                have HOf := Lib.hid (of_any w.heap.size T (T.getD k 0#32) wr HTz.out)
                generalize T.getD k 0#32 = Y at *
                generalize ofTable T Y 32 = Z at *
                go_wp2_with (go_at_call 22; refine (HOf.out).mono ?_; rintro e w7 ⟨rfl, kd, hd⟩; have HT7 : Hid (Tab w7 w.heap.size T) := Lib.hid (by rw [hd]; exact HTz.out.drewN kd); have HU7 : Hid (Tab w7 w5.heap.size (mixed T k)) := Lib.hid (by rw [hd]; exact HUz.out.drewN kd); have HB7 : Hid (Below w.heap.size w w7) := Lib.hid (by rw [hd]; exact below_drewN HBz.out kd); have c7 := HU7.out.cell k hlk; have f7 := HU7.out.free k; clear hd)
                go_roundw
                case rel => exact ⟨k + 1, by omega, by go_num, HT7.out.other k _ (Nat.ne_of_lt hne), by rw [HM.out]; exact HU7.out.set k Z, HB7.out.setCell (Nat.le_of_lt hne) _⟩
                case measure => simp [intOf]; omega
              · obtain rfl : k = 32 := by omega
                rw [mixed_all T hTl.out] at HUz
                go_wp2_with (first | (refine load_tab rfl _ rfl w5.heap.size (twice T) rfl ?_ ?_; with_reducible exact HUz.out) | (refine store_tab rfl _ _ rfl w.heap.size T (twice T) rfl rfl ?_ ?_ ?_; with_reducible exact HTz.out; exact HUz.out.len; intro w8 ht hg; have HT8 := Lib.hid ht; have HB8 := Lib.hid (Below.grown HBz.out hg HBz.out.size (fun k hk => by injection hk; omega)); clear ht hg))
                go_roundw
                case rel => exact ⟨(q : Int) / 2, 2 * c, X, twice T, rfl, by omega, by omega, rfl, HT8.out, twice_tells T c HTl.out, HX5.out, HB8.out⟩
                case measure => simp [intOf]; omega
        · have hz : q.toNat = 0 := by omega
          have hXX : X = iter one (8 * N) (notb s) := by have := HX.out; rw [hz, Nat.mul_zero] at this; exact this
          have E9 := not32 X
          have HXX := Lib.hid hXX
          clear hXX hz
          go_wp2
          go_ret
          exact ⟨ret_u32 (by rw [HXX.out]; rfl), HB3.out⟩
theorem notb_notb (x : BitVec 32) : notb (notb x) = x := by unfold notb; simp
theorem noughtsOf_zero (s : BitVec 32) : noughtsOf s 0 = s := by unfold noughtsOf; rw [Nat.mul_zero]; exact notb_notb s
theorem noughtsOf_add (s : BitVec 32) (x y : Nat) : noughtsOf (noughtsOf s x) y = noughtsOf s (x + y) := by
  unfold noughtsOf
  rw [notb_notb, ← iter_add, Nat.mul_add]
theorem noughtsOf_more (s : BitVec 32) (n : Nat) : noughtsOf s n = sumMore s (List.replicate n 0) := by
  unfold noughtsOf sumMore more notb
  rw [reg_zeros]
/-- what it answers for any number -/
def noughtsI (s : BitVec 32) (n : Int) : BitVec 32 := noughtsOf s (min n 1099511627776).toNat
theorem noughtsI_nat (s : BitVec 32) (n : Nat) (h : n ≤ 1099511627776) : noughtsI s (n : Int) = noughtsOf s n := by
  unfold noughtsI
  congr 1
  omega
theorem noughtsI_top (s : BitVec 32) (n : Int) (h : 1099511627776 ≤ n) : noughtsI s n = noughtsOf s 1099511627776 := by
  unfold noughtsI
  congr 1
  omega
theorem noughtsI_neg (s : BitVec 32) (n : Int) (h : n ≤ 0) : noughtsI s n = s := by
  unfold noughtsI
  rw [show (min n 1099511627776).toNat = 0 by omega, noughtsOf_zero]
theorem noughts_all (s : BitVec 32) (n : Int) (w : World) (hn : -9223372036854775808 ≤ n ∧ n ≤ 9223372036854775807) :
    Calls Tryd.prog 16 #[.int .u32 (reg32 s), .int .i64 n] w fun e w' => e = .returned (.int .u32 (reg32 (noughtsI s n))) ∧ Below w.heap.size w w' := noughts_any s n w hn
theorem beq_u32 {a b : BitVec 32} (h : a = b) : (reg32 a == reg32 b) = true := by rw [h]; exact beq_self_eq_true _
end Go.Proofs.YtmgnabfmmmagkaaDoor
