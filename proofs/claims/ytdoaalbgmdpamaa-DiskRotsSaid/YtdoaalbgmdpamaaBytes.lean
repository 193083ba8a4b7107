/-
  Words on slices of bytes, on rows of memory and on what is kept, at this seat's numbers.
-/
import Derived.Test.YtdoaalbgmdpamaaProg
import Derived.WalkKit
import Derived.Outline
import Derived.Laws.BitsLemmas
import Derived.Lib.Hide
import Derived.Below
import Derived.WalkSpells
import Derived.Laws.OwnMore
import Derived.Laws.AppendOwnNone
import Derived.Deep.QuietTactic
import Derived.BigQuiet
import Derived.Tactics
import Derived.OwnWalk
import Derived.Laws.BytesArg
import Derived.Deep.MidRow
import Derived.RegionTactic
import Derived.BigRegion
set_option linter.unusedVariables false
set_option linter.unusedSimpArgs false
namespace Go.Proofs.Ytdoaalbgmdpamaa
open Go Go.RowKit

def Byte (c : Int) : Prop := 0 ≤ c ∧ c < 256
def IsBytes (l : List Int) : Prop := ∀ c ∈ l, Byte c
/-- a slice of bytes reads so -/
structure ReadsB (w : World) (a : Option Addr) (n cap : Nat) (xs : List Int) : Prop where
  len : xs.length = n
  bound : n ≤ 140737488351232
  fits : n ≤ cap
  room : cap ≤ 9223372036854775807
  nil : a = none → n = 0 ∧ cap = 0
  byte : IsBytes xs
  addr : 0 < n → ∃ b off, a = some ⟨b, off, none⟩ ∧ ∀ j, j < n → w.cell? ⟨b, off + j, none⟩ = some (.int .u8 (xs.getD j 0))
theorem ReadsB.getD {w : World} {a : Option Addr} {n cap : Nat} {xs : List Int} (h : ReadsB w a n cap xs) (j : Nat) (hj : j < n) : Byte (xs.getD j 0) :=
  h.byte _ (by rw [List.getD_eq_getElem?_getD, List.getElem?_eq_getElem (by have := h.len; omega)]; simp)
def xorI (a b : Int) : Int := ((BitVec.ofInt 8 a ^^^ BitVec.ofInt 8 b).toNat : Int)
theorem byte32 (c : Int) (h : Byte c) : BitVec.ofInt 32 c = (BitVec.ofInt 8 c).setWidth 32 := by
  obtain ⟨h0, h1⟩ := h
  obtain ⟨n, rfl⟩ := Int.eq_ofNat_of_zero_le h0
  apply BitVec.eq_of_toNat_eq
  simp only [BitVec.ofInt_natCast, BitVec.toNat_ofNat, BitVec.toNat_setWidth]
  omega
theorem xorI_byte (a b : Int) : Byte (xorI a b) := by
  unfold Byte xorI
  have := (BitVec.ofInt 8 a ^^^ BitVec.ofInt 8 b).isLt
  omega
theorem set_bytes (l : List Int) (k : Nat) (c : Int) (hl : ∀ c ∈ l, Byte c) (hc : Byte c) : ∀ x ∈ l.set k c, Byte x := by
  intro x hx
  rcases List.mem_or_eq_of_mem_set hx with h | rfl
  · exact hl x h
  · exact hc
def bytesV (xs : List Int) : List Value := xs.map (Value.int .u8)
theorem addB (b off j : Nat) : (⟨b, off, none⟩ : Addr).add j = ⟨b, off + j, none⟩ := by unfold Addr.add; split <;> simp_all
/-- the call's own slice of bytes, in blocks from base on -/
def OwnB (w : World) (base : Nat) (v : Value) (xs : List Int) : Prop := w.ownsRow base 5 1 v xs.length (bytesV xs)
theorem ReadsB.below {w w' : World} {a : Option Addr} {n cap : Nat} {xs : List Int} (h : ReadsB w a n cap xs) (hb : Below w.heap.size w w') : ReadsB w' a n cap xs :=
  ⟨h.len, h.bound, h.fits, h.room, h.nil, h.byte, fun hn => by
    obtain ⟨b, off, rfl, hc⟩ := h.addr hn
    exact ⟨b, off, rfl, fun j hj => (hb.cell (World.block_lt_of_cell? w _ (hc j hj))).trans (hc j hj)⟩⟩
theorem ReadsB.take {w : World} {a : Option Addr} {n cap m : Nat} {xs : List Int} (h : ReadsB w a n cap xs) (hm : m ≤ n) : ReadsB w a m cap (xs.take m) := by
  have hl := h.len
  refine ⟨by simp; omega, by have := h.bound; omega, by have := h.fits; omega, h.room, fun e => by have := h.nil e; omega, fun c hc => h.byte c (List.mem_of_mem_take hc), fun h0 => ?_⟩
  obtain ⟨b, off, rfl, hc⟩ := h.addr (by omega)
  refine ⟨b, off, rfl, fun j hj => ?_⟩
  rw [hc j (by omega)]
  simp [List.getD_eq_getElem?_getD, List.getElem?_take, hj]
theorem ReadsB.drop {w : World} {b off n cap m : Nat} {xs : List Int} (h : ReadsB w (some ⟨b, off, none⟩) n cap xs) (hm : m ≤ n) : ReadsB w (some ⟨b, off + m, none⟩) (n - m) (cap - m) (xs.drop m) := by
  have hl := h.len
  refine ⟨by simp; omega, by have := h.bound; omega, by have := h.fits; omega, by have := h.room; omega, fun e => by (cases e), fun c hc => h.byte c (List.mem_of_mem_drop hc), fun h0 => ?_⟩
  obtain ⟨b', off', e', hc⟩ := h.addr (by omega)
  cases e'
  refine ⟨b, off + m, rfl, fun j hj => ?_⟩
  rw [Nat.add_assoc, hc (m + j) (by omega)]
  simp [List.getD_eq_getElem?_getD, List.getElem?_drop]
theorem OwnB.reads {w : World} {base : Nat} {v : Value} {xs : List Int} (h : OwnB w base v xs) (hb : IsBytes xs) (hn : xs.length ≤ 140737488351232) : ∃ a cap, v = .slice a xs.length cap ∧ ReadsB w a xs.length cap xs := by
  unfold OwnB at h
  have h' := h
  rcases h.2 with ⟨rfl, e⟩ | ⟨g, cap, cur, rfl, _, hh, h1, h2, _⟩
  · have : xs = [] := List.eq_nil_of_length_eq_zero e
    subst this
    exact ⟨none, 0, rfl, rfl, by simp, by simp, by simp, fun _ => ⟨rfl, rfl⟩, hb, fun h0 => absurd h0 (by simp)⟩
  · refine ⟨_, cap, rfl, rfl, hn, h1, by unfold maxLen at h2; omega, fun e => (by cases e), hb, fun _ => ?_⟩
    refine ⟨g, 0, rfl, fun j hj => ?_⟩
    have := h'.cells (g := g) rfl j (.int .u8 (xs.getD j 0)) (by simp [bytesV, List.getElem?_eq_getElem hj, List.getD_eq_getElem?_getD])
    simpa [addB] using this
theorem OwnB.below {w w' : World} {base : Nat} {v : Value} {xs : List Int} (h : OwnB w base v xs) (hb : Below w.heap.size w w') : OwnB w' base v xs :=
  h.kept (row := none) ⟨hb.os, hb.tape, hb.output, hb.size, fun i hi _ => hb.block i hi⟩ (by cases v.ownBlock <;> simp)
theorem own_built (w : World) (base : Nat) (hb : base ≤ w.heap.size) (cs : Array Value) (xs : List Int) (hx : cs.toList = bytesV xs) (hn : xs.length ≤ maxLen) :
    OwnB (w.alloc (.cells cs 5)) base (.slice (some ⟨w.heap.size, 0, none⟩) xs.length xs.length) xs := by
  have hl : cs.size = xs.length := by rw [← Array.length_toList, hx]; simp [bytesV]
  refine ⟨by simp [bytesV], .inr ⟨w.heap.size, xs.length, cs, rfl, hb, ?_, Nat.le_refl _, hn, by omega, ?_⟩⟩
  · show (w.heap.push _)[w.heap.size]? = _
    simp
  · rw [hx]; exact List.take_of_length_le (by simp [bytesV])
theorem Try.infoB : (Try.prog.info? 5).map (fun i => (i.zero, i.size, i.bytes)) = some (some (.int .u8 0), 1, 1) := by kernel_rfl
theorem built_reads (w : World) (cs : Array Value) (fr : Nat × Nat) (xs : List Int) (hx : cs.toList = bytesV xs) (hb : IsBytes xs) (hn : xs.length ≤ 140737488351232) : ReadsB (w.alloc (.cells cs 5 fr)) (some ⟨w.heap.size, 0, none⟩) xs.length xs.length xs := by
  have hl : cs.size = xs.length := by rw [← Array.length_toList, hx]; simp [bytesV]
  refine ⟨rfl, hn, Nat.le_refl _, by omega, fun e => (by cases e), hb, fun _ => ?_⟩
  refine ⟨_, _, rfl, fun j hj => ?_⟩
  have hc : cs[j]? = some (.int .u8 (xs.getD j 0)) := by
    rw [← Array.getElem?_toList, hx]
    simp [bytesV, List.getElem?_eq_getElem hj, List.getD_eq_getElem?_getD]
  have hh : (w.heap.push (Obj.cells cs 5 fr))[w.heap.size]? = some (.cells cs 5 fr) := by simp
  unfold World.cell? World.alloc
  simp only [hh, Nat.zero_add]
  exact hc
/-- 'append(own, bytes...)', as one operation -/
theorem wp_append_bytes {o : Oper} {a : Act} {K : Act → World → Prop} {Q : Exit → Act → World → Prop} {w : World} (s x : Operand)
    (ho : o.op = .call { callee := .builtin .append, args := #[s, x], argTypes := #[34, 34] })
    (base : Nat) (v : Value) (xs : List Int) (hs : a.eval s = v) (hown : OwnB w base v xs) (ad : Option Addr) (m c : Nat) (ys : List Int) (hx : a.eval x = .slice ad m c) (hr : ReadsB w ad m c ys)
    (hlen : xs.length + m ≤ 140737488351232) (hbase : base ≤ w.heap.size)
    (h : ∀ v' w', OwnB w' base v' (xs ++ ys) → w.grownBy w' v.ownBlock → K (a.put o.dst v') w') : Oper.wp Try.prog o a w K Q := by
  obtain ⟨i0, hi, hz0, hz1, hz2⟩ := info_parts Try.infoB
  have hl := hr.len
  cases ad with
  | none =>
    obtain ⟨rfl, rfl⟩ := hr.nil rfl
    obtain rfl : ys = [] := List.eq_nil_of_length_eq_zero hl
    have hrun := run_append_owned_none (P := Try.prog) (w := w) base 34 o.type 5 i0 1 Try.underlying34 hi v xs.length (bytesV xs) hown
    have hk := h v w (by rw [List.append_nil]; exact hown) ⟨rfl, rfl, rfl, Nat.le_refl _, fun _ _ _ => rfl⟩
    unfold Oper.wp
    simp [execOp, ho, resolve, invoke, builtin, hs, hx, hrun, Result.andThen]
    exact hk
  | some ad =>
    refine wp_append_own w s x 34 ho base 5 i0 (.int .u8 0) 1 1 Try.underlying34 hi hz0 hz1 hz2 rfl (by decide) v xs.length (bytesV xs) hs hown ad m c (bytesV ys) hx (by simp [bytesV, hl]) ?_ ?_ (by unfold maxLen; omega) (by omega) hbase ?_
    · intro j u hu
      simp only [bytesV, List.getElem?_map, Option.map_eq_some_iff] at hu
      obtain ⟨q, hq, rfl⟩ := hu
      have hj : j < ys.length := by
        rcases Nat.lt_or_ge j ys.length with h' | h'
        · exact h'
        · rw [List.getElem?_eq_none h'] at hq; cases hq
      obtain ⟨b, off, e, hcc⟩ := hr.addr (by omega)
      cases e
      have := hcc j (by omega)
      rw [List.getD_eq_getElem?_getD, hq] at this
      rw [addB]; simpa using this
    · intro u hu
      simp only [bytesV, List.mem_map] at hu
      obtain ⟨q, _, rfl⟩ := hu
      rfl
    · intro v' w' h1 h2 _
      refine h v' w' ?_ h2
      unfold OwnB
      have e : (xs ++ ys).length = xs.length + m := by simp [hl]
      rw [e, show bytesV (xs ++ ys) = bytesV xs ++ bytesV ys by simp [bytesV]]
      exact h1
theorem wpList_append_bytes {ops : Array Oper} {rest : List Oper} {o : Oper} {a : Act} {Q : Exit → Act → World → Prop} {w : World} (hgd : o.guard = none) (s x : Operand)
    (ho : o.op = .call { callee := .builtin .append, args := #[s, x], argTypes := #[34, 34] })
    (base : Nat) (v : Value) (xs : List Int) (hs : a.eval s = v) (hown : OwnB w base v xs) (ad : Option Addr) (m c : Nat) (ys : List Int) (hx : a.eval x = .slice ad m c) (hr : ReadsB w ad m c ys)
    (hlen : xs.length + m ≤ 140737488351232) (hbase : base ≤ w.heap.size)
    (h : ∀ v' w', OwnB w' base v' (xs ++ ys) → w.grownBy w' v.ownBlock → wpList Try.prog ops Q rest (a.put o.dst v') w') : wpList Try.prog ops Q (o :: rest) a w :=
  wpList_plain hgd fun _ hK => wp_append_bytes s x ho base v xs hs hown ad m c ys hx hr hlen hbase fun v' w' h1 h2 => hK _ _ (h v' w' h1 h2)
/-- the same inside a region that draws its order -/
theorem step_append_bytes {ops : Array Oper} {o : Oper} {a : Act} {K : Act → World → Prop} {Q : Exit → Act → World → Prop} {E : Prop} {w : World} (hgd : o.guard = none) (s x : Operand)
    (ho : o.op = .call { callee := .builtin .append, args := #[s, x], argTypes := #[34, 34] })
    (base : Nat) (v : Value) (xs : List Int) (hs : a.eval s = v) (hown : OwnB w base v xs) (ad : Option Addr) (m c : Nat) (ys : List Int) (hx : a.eval x = .slice ad m c) (hr : ReadsB w ad m c ys)
    (hlen : xs.length + m ≤ 140737488351232) (hbase : base ≤ w.heap.size)
    (h : ∀ v' w', OwnB w' base v' (xs ++ ys) → w.grownBy w' v.ownBlock → K (a.put o.dst v') w') :
    if Region.wanted o (yielded ops a.tmps) = true then Oper.wp Try.prog o a w K Q else E := by
  rw [if_pos (show Region.wanted o (yielded ops a.tmps) = true by simp [Region.wanted, hgd])]
  exact wp_append_bytes s x ho base v xs hs hown ad m c ys hx hr hlen hbase h
/-- a row of the call's own that is not empty, laid open -/
theorem OwnB.opened {w : World} {base : Nat} {v : Value} {xs : List Int} {n : Nat} (h : OwnB w base v xs) (hl : xs.length = n) (h0 : 0 < n) :
    ∃ g cap, v = .slice (some ⟨g, 0, none⟩) n cap ∧ base ≤ g ∧ n ≤ cap ∧ cap ≤ 9223372036854775807 ∧ g < w.heap.size ∧ OwnB w base (.slice (some ⟨g, 0, none⟩) n cap) xs := by
  subst hl
  have h' := h
  rcases h.2 with ⟨rfl, e⟩ | ⟨g, cap, cur, rfl, hb, hh, h1, h2, _⟩
  · omega
  · exact ⟨g, cap, rfl, hb, h1, by unfold maxLen at h2; omega, (Array.getElem?_eq_some_iff.1 hh).1, h'⟩
theorem OwnB.cell {w : World} {base g n cap : Nat} {xs : List Int} (h : OwnB w base (.slice (some ⟨g, 0, none⟩) n cap) xs) (hl : xs.length = n) (j : Nat) (hj : j < n) : w.cell? ⟨g, j, none⟩ = some (.int .u8 (xs.getD j 0)) := by
  subst hl
  rw [World.ownsRow.cellAt h j (by omega)]
  simp [bytesV, List.getD_eq_getElem?_getD, List.getElem?_eq_getElem hj]
theorem OwnB.free {w : World} {base g n cap : Nat} {xs : List Int} (h : OwnB w base (.slice (some ⟨g, 0, none⟩) n cap) xs) (hl : xs.length = n) (j : Nat) : w.frozen? ⟨g, j, none⟩ = false := by
  subst hl
  exact World.ownsRow.frozenAt h j
theorem OwnB.set {w : World} {base g n cap : Nat} {xs : List Int} (h : OwnB w base (.slice (some ⟨g, 0, none⟩) n cap) xs) (hl : xs.length = n) (j : Nat) (x : Int) :
    OwnB (w.setCell ⟨g, j, none⟩ (.int .u8 x)) base (.slice (some ⟨g, 0, none⟩) n cap) (xs.set j x) := by
  subst hl
  have := (World.ownsRow.stored h j (.int .u8 x)).1
  unfold OwnB
  rw [List.length_set, show bytesV (xs.set j x) = (bytesV xs).set j (.int .u8 x) by simp [bytesV, List.map_set]]
  exact this
theorem OwnB.drewB {w : World} {base : Nat} {v : Value} {xs : List Int} (h : OwnB w base v xs) : OwnB w.drew base v xs := h
theorem OwnB.at_ {w : World} {base g n cap : Nat} {xs : List Int} (h : OwnB w base (.slice (some ⟨g, 0, none⟩) n cap) xs) (hb : IsBytes xs) (hl : xs.length = n) (h1 : n ≤ 140737488351232) (h2 : n ≤ cap) (h3 : cap ≤ 9223372036854775807) : ReadsB w (some ⟨g, 0, none⟩) n cap xs :=
  ⟨hl, h1, h2, h3, fun e => (by cases e), hb, fun _ => ⟨g, 0, rfl, fun j hj => by rw [Nat.zero_add]; exact h.cell hl j hj⟩⟩
/-- behind a law that ends in 'grownBy', if nothing of it was written -/
theorem ReadsB.kept {w w' : World} {a : Option Addr} {n cap : Nat} {xs : List Int} {row : Option Nat} (h : ReadsB w a n cap xs) (hg : w.grownBy w' row) (hr : ∀ ad, a = some ad → some ad.block ≠ row) : ReadsB w' a n cap xs :=
  ⟨h.len, h.bound, h.fits, h.room, h.nil, h.byte, fun hn => by
    obtain ⟨b, off, rfl, hc⟩ := h.addr hn
    have hne : some b ≠ row := hr ⟨b, off, none⟩ rfl
    exact ⟨b, off, rfl, fun j hj => hg.cell (hc j hj) hne⟩⟩
theorem own_nil (w : World) (base : Nat) : OwnB w base (.slice none 0 0) [] := World.ownsRow_nil _ _ _ _
theorem xor8 (a b : Int) : Go.bits .xor .u8 a b = xorI a b := by
  show IntKind.u8.wrap (((BitVec.ofInt 8 a) ^^^ (BitVec.ofInt 8 b)).toNat : Int) = _
  rw [IntKind.wrap_u8]
  unfold xorI
  have := (BitVec.ofInt 8 a ^^^ BitVec.ofInt 8 b).isLt
  omega
/-- a number turned to a place below a numeral -/
theorem place_num (a : Int) (c : Int) (h : 0 < c) (hm : c ≤ 9223372036854775807) : ∃ k : Nat, wrap64 ((IntKind.u64.wrap a).tmod c) = (k : Int) ∧ (k : Int) < c := by
  have h0 : 0 ≤ IntKind.u64.wrap a := by simp [IntKind.wrap, IntKind.bits, IntKind.signed]; omega
  rw [Int.tmod_eq_emod_of_nonneg h0]
  have t0 := Int.emod_nonneg (IntKind.u64.wrap a) (show c ≠ 0 by omega)
  have t1 := Int.emod_lt_of_pos (IntKind.u64.wrap a) h
  generalize IntKind.u64.wrap a % c = j at *
  obtain ⟨k, rfl⟩ := Int.eq_ofNat_of_zero_le t0
  exact ⟨k, by unfold wrap64; omega, t1⟩
/-- a number turned to a place -/
theorem place_u64 (a : Int) (m : Nat) (h : 0 < m) (hm : m ≤ 9223372036854775807) : ∃ k : Nat, wrap64 ((IntKind.u64.wrap a).tmod (m : Int)) = (k : Int) ∧ k < m := by
  have h0 : 0 ≤ IntKind.u64.wrap a := by simp [IntKind.wrap, IntKind.bits, IntKind.signed]; omega
  rw [Int.tmod_eq_emod_of_nonneg h0]
  have t0 := Int.emod_nonneg (IntKind.u64.wrap a) (show (m : Int) ≠ 0 by omega)
  have t1 := Int.emod_lt_of_pos (IntKind.u64.wrap a) (show 0 < (m : Int) by omega)
  generalize IntKind.u64.wrap a % (m : Int) = j at *
  obtain ⟨k, rfl⟩ := Int.eq_ofNat_of_zero_le t0
  exact ⟨k, by unfold wrap64; omega, by omega⟩
theorem ret_bool {a b : Bool} (h : a = b) : Ending.returned (.bool a) = .returned (.bool b) := by rw [h]
def eqB (xs ys : List Int) : Bool := xs == ys
theorem own_base {w : World} {base : Nat} {v : Value} {xs : List Int} (h : OwnB w base v xs) (k : Nat) (hk : v.ownBlock = some k) : base ≤ k := by
  rcases h.2 with ⟨rfl, _⟩ | ⟨g, cap, cur, rfl, hb, _⟩
  · simp [Value.ownBlock] at hk
  · have : g = k := by simpa [Value.ownBlock] using hk
    omega
theorem u8_of (x : Int) : IntKind.u8.wrap x = x % 256 := IntKind.wrap_u8 x
theorem below_drewN {B : Nat} {a w : World} (h : Below B a w) (n : Nat) : Below B a (w.drewN n) := ⟨h.os, h.tape, h.output, h.size, h.block⟩
theorem bstep {w W W' : World} (h : Below w.heap.size w W) (k : Below W.heap.size W W') : Below w.heap.size w W' := h.trans (k.mono h.size)
theorem balloc {w W : World} (h : Below w.heap.size w W) (o : Obj) : Below w.heap.size w (W.alloc o) := h.alloc h.size o
theorem ReadsB.drewB {w : World} {a : Option Addr} {n cap : Nat} {xs : List Int} (h : ReadsB w a n cap xs) : ReadsB w.drew a n cap xs := ⟨h.len, h.bound, h.fits, h.room, h.nil, h.byte, h.addr⟩
/-- 'make([]byte, k)' -/
def zerosV (k : Nat) : Array Value := madeCells (Value.int .u8 0).cells k
theorem make_bytes (k : Nat) (hk : k ≤ 140737488351232) (W : World) : (Instr.makeSlice 34 (.int .i64 (k : Int)) (.int .i64 (k : Int))).run Try.prog W = .ok (.slice (some ⟨W.heap.size, 0, none⟩) k k) (W.alloc (.cells (zerosV k) 5)) := by
  obtain ⟨i0, hi, hz0, hz1, hz2⟩ := info_parts Try.infoB
  have := run_make (P := Try.prog) W 34 5 i0 (.int .u8 0) Try.underlying34 hi hz0 .i64 .i64 (k : Int) (k : Int) (by omega) (Int.le_refl _) (by rw [hz2]; omega) (by omega)
  rw [hz1, Int.toNat_natCast, Nat.mul_one] at this
  exact this
theorem zerosV_list (k : Nat) : (zerosV k).toList = bytesV (List.replicate k 0) := by
  unfold zerosV
  rw [show (Value.int .u8 0).cells = #[Value.int .u8 0] from rfl, toList_madeCells_one]
  simp [bytesV]
theorem zeros_bytes (k : Nat) : IsBytes (List.replicate k 0) := by
  intro c hc
  rw [List.mem_replicate] at hc
  rw [hc.2]; exact ⟨by decide, by decide⟩
theorem zeros_reads (k : Nat) (hk : k ≤ 140737488351232) (W : World) : ReadsB (W.alloc (.cells (zerosV k) 5)) (some ⟨W.heap.size, 0, none⟩) k k (List.replicate k 0) := by
  have := built_reads W (zerosV k) (0, 0) (List.replicate k 0) (zerosV_list k) (zeros_bytes k) (by simpa using hk)
  rw [List.length_replicate] at this
  exact this
/-- bytes as a string -/
def strB (xs : List Int) : ByteArray := strOfNums xs
theorem strB_size (xs : List Int) : (strB xs).size = xs.length := strOfNums_size xs
theorem conv_str {w : World} {a : Option Addr} {n cap : Nat} {xs : List Int} (h : ReadsB w a n cap xs) : (convert 34 9 (.slice a n cap)).run Try.prog w = .ok (.string (strB xs)) w := by
  cases a with
  | none =>
    obtain ⟨rfl, rfl⟩ := h.nil rfl
    obtain rfl : xs = [] := List.eq_nil_of_length_eq_zero h.len
    exact run_convert_bytes_nil w 34 5 Try.underlying34 Try.underlying5 0 0 9 Try.underlying9
  | some ad =>
    rcases Nat.eq_zero_or_pos n with h0 | h0
    · subst h0
      obtain rfl : xs = [] := List.eq_nil_of_length_eq_zero h.len
      exact run_convert_bytes_string w 34 9 5 (some ad) 0 cap Try.underlying34 Try.underlying5 Try.underlying9
    · obtain ⟨b, off, e, hc⟩ := h.addr h0
      cases e
      exact run_convert_bytes_arg w 34 5 Try.underlying34 Try.underlying5 b off n cap xs h.len hc 9 Try.underlying9
theorem OwnB.reads' {w : World} {base : Nat} {v : Value} {xs : List Int} {n : Nat} (h : OwnB w base v xs) (hb : IsBytes xs) (hl : xs.length = n) (hn : n ≤ 140737488351232) : ∃ a cap, v = .slice a n cap ∧ ReadsB w a n cap xs := by
  subst hl
  exact h.reads hb hn
theorem byte_of (c : Int) (h : Byte c) : ((UInt8.ofNat c.toNat).toNat : Int) = c := by
  have := h.1; have := h.2
  rw [UInt8.toNat_ofNat']; omega
/-- the string tells the bytes -/
theorem strB_inj {xs ys : List Int} (hx : IsBytes xs) (hy : IsBytes ys) (h : strB xs = strB ys) : xs = ys := by
  have e : xs.map (fun n => UInt8.ofNat n.toNat) = ys.map (fun n => UInt8.ofNat n.toNat) := by
    rw [← strOfNums_data, ← strOfNums_data]; exact congrArg (fun s : ByteArray => s.data.toList) h
  have e2 := congrArg (List.map (fun b : UInt8 => (b.toNat : Int))) e
  rw [List.map_map, List.map_map] at e2
  have id : ∀ l : List Int, IsBytes l → l.map ((fun b : UInt8 => (b.toNat : Int)) ∘ fun n => UInt8.ofNat n.toNat) = l := fun l hl => by
    conv => rhs; rw [← List.map_id l]
    exact List.map_congr_left fun c hc => byte_of c (hl c hc)
  rw [id xs hx, id ys hy] at e2
  exact e2
theorem strB_eql {xs ys : List Int} (hx : IsBytes xs) (hy : IsBytes ys) : ((strB xs).toList == (strB ys).toList) = eqB xs ys := by
  unfold eqB
  rw [ByteArray.toList_eq, ByteArray.toList_eq, Bool.eq_iff_iff, beq_iff_eq, beq_iff_eq]
  exact ⟨fun h => strB_inj hx hy (ByteArray.ext (Array.toList_inj.1 h)), fun h => by rw [h]⟩
end Go.Proofs.Ytdoaalbgmdpamaa
