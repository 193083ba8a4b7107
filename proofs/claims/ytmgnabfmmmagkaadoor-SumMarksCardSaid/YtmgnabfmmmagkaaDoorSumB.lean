/-
  The walks of slices.Clone, slices.Equal at bytes, and of package sum's Sum, Mark, Good, at this seat's numbers.
-/
import Derived.Test.YtmgnabfmmmagkaaDoorSumA
import Derived.Below
import Derived.WalkSpells
import Derived.Laws.OwnMore
import Derived.Laws.AppendOwnNone
import Derived.Deep.QuietTactic
import Derived.BigQuiet
import Derived.Tactics
import Derived.OwnWalk
set_option linter.unusedVariables false
set_option linter.unusedSimpArgs false
namespace Go.Proofs.YtmgnabfmmmagkaaDoor
open Go Go.RowKit Crc

/-! ### words on bytes -/
def bytesV (xs : List Int) : List Value := xs.map (Value.int .u8)
theorem addB (b off j : Nat) : (⟨b, off, none⟩ : Addr).add j = ⟨b, off + j, none⟩ := by unfold Addr.add; split <;> simp_all
/-- the call's own slice of bytes, in blocks from base on -/
def OwnB (w : World) (base : Nat) (v : Value) (xs : List Int) : Prop := w.ownsRow base 5 1 v xs.length (bytesV xs)
theorem Fours.below {w w' : World} (h : Fours w) (hb : Below w.heap.size w w') : Fours w' := fun j hj =>
  (hb.cell (World.block_lt_of_cell? w _ (h j hj))).trans (h j hj)
theorem ReadsB.below {w w' : World} {a : Option Addr} {n cap : Nat} {xs : List Int} (h : ReadsB w a n cap xs) (hb : Below w.heap.size w w') : ReadsB w' a n cap xs :=
  ⟨h.len, h.bound, h.fits, h.room, h.nil, h.byte, fun hn => by
    obtain ⟨b, off, rfl, hc⟩ := h.addr hn
    exact ⟨b, off, rfl, fun j hj => (hb.cell (World.block_lt_of_cell? w _ (hc j hj))).trans (hc j hj)⟩⟩
theorem ReadsB.take {w : World} {a : Option Addr} {n cap m : Nat} {xs : List Int} (h : ReadsB w a n cap xs) (hm : m ≤ n) : ReadsB w a m cap (xs.take m) := by
  have hl := h.len
  refine ⟨by simp; omega, by have := h.bound; omega, by have := h.fits; omega, h.room, fun e => by have := h.nil e; omega, fun c hc => h.byte c (List.mem_of_mem_take hc), fun h0 => ?_⟩
  obtain ⟨b, off, rfl, hc⟩ := h.addr (by omega)
  refine ⟨b, off, rfl, fun j hj => ?_⟩
  rw [hc j (by omega)]
  simp [List.getD_eq_getElem?_getD, List.getElem?_take, hj]
theorem ReadsB.drop {w : World} {b off n cap m : Nat} {xs : List Int} (h : ReadsB w (some ⟨b, off, none⟩) n cap xs) (hm : m ≤ n) : ReadsB w (some ⟨b, off + m, none⟩) (n - m) (cap - m) (xs.drop m) := by
  have hl := h.len
  refine ⟨by simp; omega, by have := h.bound; omega, by have := h.fits; omega, by have := h.room; omega, fun e => by (cases e), fun c hc => h.byte c (List.mem_of_mem_drop hc), fun h0 => ?_⟩
  obtain ⟨b', off', e', hc⟩ := h.addr (by omega)
  cases e'
  refine ⟨b, off + m, rfl, fun j hj => ?_⟩
  rw [Nat.add_assoc, hc (m + j) (by omega)]
  simp [List.getD_eq_getElem?_getD, List.getElem?_drop]
theorem OwnB.reads {w : World} {base : Nat} {v : Value} {xs : List Int} (h : OwnB w base v xs) (hb : IsBytes xs) (hn : xs.length ≤ 140737488351232) : ∃ a cap, v = .slice a xs.length cap ∧ ReadsB w a xs.length cap xs := by
  unfold OwnB at h
  have h' := h
  rcases h.2 with ⟨rfl, e⟩ | ⟨g, cap, cur, rfl, _, hh, h1, h2, _⟩
  · have : xs = [] := List.eq_nil_of_length_eq_zero e
    subst this
    exact ⟨none, 0, rfl, rfl, by simp, by simp, by simp, fun _ => ⟨rfl, rfl⟩, hb, fun h0 => absurd h0 (by simp)⟩
  · refine ⟨_, cap, rfl, rfl, hn, h1, by unfold maxLen at h2; omega, fun e => (by cases e), hb, fun _ => ?_⟩
    refine ⟨g, 0, rfl, fun j hj => ?_⟩
    have := h'.cells (g := g) rfl j (.int .u8 (xs.getD j 0)) (by simp [bytesV, List.getElem?_eq_getElem hj, List.getD_eq_getElem?_getD])
    simpa [addB] using this
theorem OwnB.below {w w' : World} {base : Nat} {v : Value} {xs : List Int} (h : OwnB w base v xs) (hb : Below w.heap.size w w') : OwnB w' base v xs :=
  h.kept (row := none) ⟨hb.os, hb.tape, hb.output, hb.size, fun i hi _ => hb.block i hi⟩ (by cases v.ownBlock <;> simp)
theorem own_built (w : World) (base : Nat) (hb : base ≤ w.heap.size) (cs : Array Value) (xs : List Int) (hx : cs.toList = bytesV xs) (hn : xs.length ≤ maxLen) :
    OwnB (w.alloc (.cells cs 5)) base (.slice (some ⟨w.heap.size, 0, none⟩) xs.length xs.length) xs := by
  have hl : cs.size = xs.length := by rw [← Array.length_toList, hx]; simp [bytesV]
  refine ⟨by simp [bytesV], .inr ⟨w.heap.size, xs.length, cs, rfl, hb, ?_, Nat.le_refl _, hn, by omega, ?_⟩⟩
  · show (w.heap.push _)[w.heap.size]? = _
    simp
  · rw [hx]; exact List.take_of_length_le (by simp [bytesV])
theorem Tryd.infoB : (Tryd.prog.info? 5).map (fun i => (i.zero, i.size, i.bytes)) = some (some (.int .u8 0), 1, 1) := by kernel_rfl
theorem built_reads (w : World) (cs : Array Value) (fr : Nat × Nat) (xs : List Int) (hx : cs.toList = bytesV xs) (hb : IsBytes xs) (hn : xs.length ≤ 140737488351232) : ReadsB (w.alloc (.cells cs 5 fr)) (some ⟨w.heap.size, 0, none⟩) xs.length xs.length xs := by
  have hl : cs.size = xs.length := by rw [← Array.length_toList, hx]; simp [bytesV]
  refine ⟨rfl, hn, Nat.le_refl _, by omega, fun e => (by cases e), hb, fun _ => ?_⟩
  refine ⟨_, _, rfl, fun j hj => ?_⟩
  have hc : cs[j]? = some (.int .u8 (xs.getD j 0)) := by
    rw [← Array.getElem?_toList, hx]
    simp [bytesV, List.getElem?_eq_getElem hj, List.getD_eq_getElem?_getD]
  have hh : (w.heap.push (Obj.cells cs 5 fr))[w.heap.size]? = some (.cells cs 5 fr) := by simp
  unfold World.cell? World.alloc
  simp only [hh, Nat.zero_add]
  exact hc
/-- 'append(own, bytes...)', as one operation -/
theorem wp_append_bytes {o : Oper} {a : Act} {K : Act → World → Prop} {Q : Exit → Act → World → Prop} {w : World} (s x : Operand)
    (ho : o.op = .call { callee := .builtin .append, args := #[s, x], argTypes := #[22, 22] })
    (base : Nat) (v : Value) (xs : List Int) (hs : a.eval s = v) (hown : OwnB w base v xs) (ad : Option Addr) (m c : Nat) (ys : List Int) (hx : a.eval x = .slice ad m c) (hr : ReadsB w ad m c ys)
    (hlen : xs.length + m ≤ 140737488351232) (hbase : base ≤ w.heap.size)
    (h : ∀ v' w', OwnB w' base v' (xs ++ ys) → w.grownBy w' v.ownBlock → K (a.put o.dst v') w') : Oper.wp Tryd.prog o a w K Q := by
  obtain ⟨i0, hi, hz0, hz1, hz2⟩ := info_parts Tryd.infoB
  have hl := hr.len
  cases ad with
  | none =>
    obtain ⟨rfl, rfl⟩ := hr.nil rfl
    obtain rfl : ys = [] := List.eq_nil_of_length_eq_zero hl
    have hrun := run_append_owned_none (P := Tryd.prog) (w := w) base 22 o.type 5 i0 1 Tryd.underlying22 hi v xs.length (bytesV xs) hown
    have hk := h v w (by rw [List.append_nil]; exact hown) ⟨rfl, rfl, rfl, Nat.le_refl _, fun _ _ _ => rfl⟩
    unfold Oper.wp
    simp [execOp, ho, resolve, invoke, builtin, hs, hx, hrun, Result.andThen]
    exact hk
  | some ad =>
    refine wp_append_own w s x 22 ho base 5 i0 (.int .u8 0) 1 1 Tryd.underlying22 hi hz0 hz1 hz2 rfl (by decide) v xs.length (bytesV xs) hs hown ad m c (bytesV ys) hx (by simp [bytesV, hl]) ?_ ?_ (by unfold maxLen; omega) (by omega) hbase ?_
    · intro j u hu
      simp only [bytesV, List.getElem?_map, Option.map_eq_some_iff] at hu
      obtain ⟨q, hq, rfl⟩ := hu
      have hj : j < ys.length := by
        rcases Nat.lt_or_ge j ys.length with h' | h'
        · exact h'
        · rw [List.getElem?_eq_none h'] at hq; cases hq
      obtain ⟨b, off, e, hcc⟩ := hr.addr (by omega)
      cases e
      have := hcc j (by omega)
      rw [List.getD_eq_getElem?_getD, hq] at this
      rw [addB]; simpa using this
    · intro u hu
      simp only [bytesV, List.mem_map] at hu
      obtain ⟨q, _, rfl⟩ := hu
      rfl
    · intro v' w' h1 h2 _
      refine h v' w' ?_ h2
      unfold OwnB
      have e : (xs ++ ys).length = xs.length + m := by simp [hl]
      rw [e, show bytesV (xs ++ ys) = bytesV xs ++ bytesV ys by simp [bytesV]]
      exact h1
theorem wpList_append_bytes {ops : Array Oper} {rest : List Oper} {o : Oper} {a : Act} {Q : Exit → Act → World → Prop} {w : World} (hgd : o.guard = none) (s x : Operand)
    (ho : o.op = .call { callee := .builtin .append, args := #[s, x], argTypes := #[22, 22] })
    (base : Nat) (v : Value) (xs : List Int) (hs : a.eval s = v) (hown : OwnB w base v xs) (ad : Option Addr) (m c : Nat) (ys : List Int) (hx : a.eval x = .slice ad m c) (hr : ReadsB w ad m c ys)
    (hlen : xs.length + m ≤ 140737488351232) (hbase : base ≤ w.heap.size)
    (h : ∀ v' w', OwnB w' base v' (xs ++ ys) → w.grownBy w' v.ownBlock → wpList Tryd.prog ops Q rest (a.put o.dst v') w') : wpList Tryd.prog ops Q (o :: rest) a w :=
  wpList_plain hgd fun _ hK => wp_append_bytes s x ho base v xs hs hown ad m c ys hx hr hlen hbase fun v' w' h1 h2 => hK _ _ (h v' w' h1 h2)
/-- the same inside a region that draws its order -/
theorem step_append_bytes {ops : Array Oper} {o : Oper} {a : Act} {K : Act → World → Prop} {Q : Exit → Act → World → Prop} {E : Prop} {w : World} (hgd : o.guard = none) (s x : Operand)
    (ho : o.op = .call { callee := .builtin .append, args := #[s, x], argTypes := #[22, 22] })
    (base : Nat) (v : Value) (xs : List Int) (hs : a.eval s = v) (hown : OwnB w base v xs) (ad : Option Addr) (m c : Nat) (ys : List Int) (hx : a.eval x = .slice ad m c) (hr : ReadsB w ad m c ys)
    (hlen : xs.length + m ≤ 140737488351232) (hbase : base ≤ w.heap.size)
    (h : ∀ v' w', OwnB w' base v' (xs ++ ys) → w.grownBy w' v.ownBlock → K (a.put o.dst v') w') :
    if Region.wanted o (yielded ops a.tmps) = true then Oper.wp Tryd.prog o a w K Q else E := by
  rw [if_pos (show Region.wanted o (yielded ops a.tmps) = true by simp [Region.wanted, hgd])]
  exact wp_append_bytes s x ho base v xs hs hown ad m c ys hx hr hlen hbase h
/-- a row of the call's own that is not empty, laid open -/
theorem OwnB.opened {w : World} {base : Nat} {v : Value} {xs : List Int} {n : Nat} (h : OwnB w base v xs) (hl : xs.length = n) (h0 : 0 < n) :
    ∃ g cap, v = .slice (some ⟨g, 0, none⟩) n cap ∧ base ≤ g ∧ n ≤ cap ∧ cap ≤ 9223372036854775807 ∧ g < w.heap.size ∧ OwnB w base (.slice (some ⟨g, 0, none⟩) n cap) xs := by
  subst hl
  have h' := h
  rcases h.2 with ⟨rfl, e⟩ | ⟨g, cap, cur, rfl, hb, hh, h1, h2, _⟩
  · omega
  · exact ⟨g, cap, rfl, hb, h1, by unfold maxLen at h2; omega, (Array.getElem?_eq_some_iff.1 hh).1, h'⟩
theorem OwnB.cell {w : World} {base g n cap : Nat} {xs : List Int} (h : OwnB w base (.slice (some ⟨g, 0, none⟩) n cap) xs) (hl : xs.length = n) (j : Nat) (hj : j < n) : w.cell? ⟨g, j, none⟩ = some (.int .u8 (xs.getD j 0)) := by
  subst hl
  rw [World.ownsRow.cellAt h j (by omega)]
  simp [bytesV, List.getD_eq_getElem?_getD, List.getElem?_eq_getElem hj]
theorem OwnB.free {w : World} {base g n cap : Nat} {xs : List Int} (h : OwnB w base (.slice (some ⟨g, 0, none⟩) n cap) xs) (hl : xs.length = n) (j : Nat) : w.frozen? ⟨g, j, none⟩ = false := by
  subst hl
  exact World.ownsRow.frozenAt h j
theorem OwnB.set {w : World} {base g n cap : Nat} {xs : List Int} (h : OwnB w base (.slice (some ⟨g, 0, none⟩) n cap) xs) (hl : xs.length = n) (j : Nat) (x : Int) :
    OwnB (w.setCell ⟨g, j, none⟩ (.int .u8 x)) base (.slice (some ⟨g, 0, none⟩) n cap) (xs.set j x) := by
  subst hl
  have := (World.ownsRow.stored h j (.int .u8 x)).1
  unfold OwnB
  rw [List.length_set, show bytesV (xs.set j x) = (bytesV xs).set j (.int .u8 x) by simp [bytesV, List.map_set]]
  exact this
theorem OwnB.drewB {w : World} {base : Nat} {v : Value} {xs : List Int} (h : OwnB w base v xs) : OwnB w.drew base v xs := h
theorem OwnB.at_ {w : World} {base g n cap : Nat} {xs : List Int} (h : OwnB w base (.slice (some ⟨g, 0, none⟩) n cap) xs) (hb : IsBytes xs) (hl : xs.length = n) (h1 : n ≤ 140737488351232) (h2 : n ≤ cap) (h3 : cap ≤ 9223372036854775807) : ReadsB w (some ⟨g, 0, none⟩) n cap xs :=
  ⟨hl, h1, h2, h3, fun e => (by cases e), hb, fun _ => ⟨g, 0, rfl, fun j hj => by rw [Nat.zero_add]; exact h.cell hl j hj⟩⟩
/-- behind a law that ends in 'grownBy', if nothing of it was written -/
theorem ReadsB.kept {w w' : World} {a : Option Addr} {n cap : Nat} {xs : List Int} {row : Option Nat} (h : ReadsB w a n cap xs) (hg : w.grownBy w' row) (hr : ∀ ad, a = some ad → some ad.block ≠ row) : ReadsB w' a n cap xs :=
  ⟨h.len, h.bound, h.fits, h.room, h.nil, h.byte, fun hn => by
    obtain ⟨b, off, rfl, hc⟩ := h.addr hn
    have hne : some b ≠ row := hr ⟨b, off, none⟩ rfl
    exact ⟨b, off, rfl, fun j hj => hg.cell (hc j hj) hne⟩⟩
theorem own_nil (w : World) (base : Nat) : OwnB w base (.slice none 0 0) [] := World.ownsRow_nil _ _ _ _
theorem xor8 (a b : Int) : Go.bits .xor .u8 a b = xorI a b := by
  show IntKind.u8.wrap (((BitVec.ofInt 8 a) ^^^ (BitVec.ofInt 8 b)).toNat : Int) = _
  rw [IntKind.wrap_u8]
  unfold xorI
  have := (BitVec.ofInt 8 a ^^^ BitVec.ofInt 8 b).isLt
  omega
/-- a number turned to a place below a numeral -/
theorem place_num (a : Int) (c : Int) (h : 0 < c) (hm : c ≤ 9223372036854775807) : ∃ k : Nat, wrap64 ((IntKind.u64.wrap a).tmod c) = (k : Int) ∧ (k : Int) < c := by
  have h0 : 0 ≤ IntKind.u64.wrap a := by simp [IntKind.wrap, IntKind.bits, IntKind.signed]; omega
  rw [Int.tmod_eq_emod_of_nonneg h0]
  have t0 := Int.emod_nonneg (IntKind.u64.wrap a) (show c ≠ 0 by omega)
  have t1 := Int.emod_lt_of_pos (IntKind.u64.wrap a) h
  generalize IntKind.u64.wrap a % c = j at *
  obtain ⟨k, rfl⟩ := Int.eq_ofNat_of_zero_le t0
  exact ⟨k, by unfold wrap64; omega, t1⟩
/-- a number turned to a place -/
theorem place_u64 (a : Int) (m : Nat) (h : 0 < m) (hm : m ≤ 9223372036854775807) : ∃ k : Nat, wrap64 ((IntKind.u64.wrap a).tmod (m : Int)) = (k : Int) ∧ k < m := by
  have h0 : 0 ≤ IntKind.u64.wrap a := by simp [IntKind.wrap, IntKind.bits, IntKind.signed]; omega
  rw [Int.tmod_eq_emod_of_nonneg h0]
  have t0 := Int.emod_nonneg (IntKind.u64.wrap a) (show (m : Int) ≠ 0 by omega)
  have t1 := Int.emod_lt_of_pos (IntKind.u64.wrap a) (show 0 < (m : Int) by omega)
  generalize IntKind.u64.wrap a % (m : Int) = j at *
  obtain ⟨k, rfl⟩ := Int.eq_ofNat_of_zero_le t0
  exact ⟨k, by unfold wrap64; omega, by omega⟩
theorem nilB (a : Option Addr) (n cap : Nat) (W : World) : (binOp .eql 22 (.slice a n cap) (.slice none 0 0)).run Tryd.prog W = .ok (.bool a.isNone) W :=
  Lib.run_eql_slice_nil W 22 5 a n cap _ _ Tryd.underlying22
set_option maxHeartbeats 1000000 in
theorem clone_any (a : Option Addr) (n cap : Nat) (xs : List Int) (w : World) (hr : ReadsB w a n cap xs) :
    Calls Tryd.prog 19 #[.slice a n cap] w fun e w' => ∃ v, e = .returned v ∧ OwnB w' w.heap.size v xs ∧ Below w.heap.size w w' := by
  have hnil := nilB a n cap
  cases a with
  | none =>
    obtain ⟨rfl, rfl⟩ := hr.nil rfl
    obtain rfl : xs = [] := List.eq_nil_of_length_eq_zero hr.len
    clear hr
    go_enter Tryd.func19, Tryd.ntmps19
    go_wp2
    go_ret
    exact ⟨_, rfl, World.ownsRow_nil _ _ _ _, Below.refl _ _⟩
  | some ad =>
    have hn := hr.bound
    have HR := Lib.hid hr
    clear hr
    go_enter Tryd.func19, Tryd.ntmps19
    go_wp2_with (at_builtin; refine wpList_append_bytes rfl _ _ rfl w.heap.size _ [] rfl (own_built w w.heap.size (Nat.le_refl _) #[] [] rfl (by simp)) (some ad) n cap xs rfl (ReadsB.below HR.out ((Below.refl _ _).alloc (Nat.le_refl _) _)) (by simp; omega) (by simp) ?_; intro v1 w1 ho hg; have hB := ((Below.refl _ _).alloc (Nat.le_refl _) _).grown hg (by simp) (fun k hk => by cases hk; simp); clear hg)
    go_ret
    exact ⟨_, rfl, ho, hB⟩
theorem take_eq {xs ys : List Int} {k : Nat} (h1 : k < xs.length) (h2 : k < ys.length) (h : xs.take k = ys.take k) (hk : xs.getD k 0 = ys.getD k 0) : xs.take (k + 1) = ys.take (k + 1) := by
  rw [List.getD_eq_getElem?_getD, List.getD_eq_getElem?_getD, List.getElem?_eq_getElem h1, List.getElem?_eq_getElem h2] at hk
  have hk' : xs[k] = ys[k] := by simpa using hk
  rw [List.take_succ_eq_append_getElem h1, List.take_succ_eq_append_getElem h2, h, hk']
theorem take_ne {xs ys : List Int} {k : Nat} (h1 : k < xs.length) (h2 : k < ys.length) (hk : ¬ xs.getD k 0 = ys.getD k 0) : xs ≠ ys := by
  rintro rfl
  exact hk rfl
theorem ret_bool {a b : Bool} (h : a = b) : Ending.returned (.bool a) = .returned (.bool b) := by rw [h]
def eqB (xs ys : List Int) : Bool := xs == ys
set_option maxHeartbeats 2000000 in
theorem equal_any (a a' : Option Addr) (n cap n' cap' : Nat) (xs ys : List Int) (w : World) (hr : ReadsB w a n cap xs) (hr' : ReadsB w a' n' cap' ys) :
    Calls Tryd.prog 20 #[.slice a n cap, .slice a' n' cap'] w fun e w' => e = .returned (.bool (eqB xs ys)) ∧ ∃ k, w' = w.drewN k := by
  have hn := hr.bound
  have hn' := hr'.bound
  have HR := Lib.hid hr
  have HR' := Lib.hid hr'
  clear hr hr'
  by_cases hne : n = n'
  · subst hne
    clear hn'
    go_enter Tryd.func20, Tryd.ntmps20
    go_wp2
    go_loopw [5, 13] (fun _ i wr => ∃ k m : Nat, k ≤ n ∧ i = .int .i64 k ∧ xs.take k = ys.take k ∧ wr = w.drewN m) (fun _ i _ => n - (intOf i).toNat)
    case atStart => exact ⟨0, 0, Nat.zero_le _, rfl, rfl, rfl⟩
    case round =>
      obtain ⟨k, m, hk, rfl, ht, rfl⟩ := hrel
      have HT := Lib.hid ht
      clear ht
      by_cases hlt : k < n
      · obtain ⟨b, off, rfl, hcc⟩ := HR.out.addr (by omega)
        obtain ⟨b', off', rfl, hcc'⟩ := HR'.out.addr (by omega)
        have c0 := hcc k hlt
        have c0' := hcc' k hlt
        clear hcc hcc'
        have k1 : k < xs.length := by have := HR.out.len; omega
        have k2 : k < ys.length := by have := HR'.out.len; omega
        have hlt' : ((k : Int) < (n : Int)) := by omega
        by_cases hq : xs.getD k 0 = ys.getD k 0
        · have HT2 := Lib.hid (take_eq k1 k2 HT.out hq)
          have e1 : (xs.getD k 0 != ys.getD k 0) = false := by rw [hq]; simp
          clear hq
          generalize xs.getD k 0 = X at *
          generalize ys.getD k 0 = Y at *
          go_wp2
          go_quiet (fail)
          go_wp2
          go_roundw
          case rel => exact ⟨k + 1, _, by omega, by go_num, HT2.out, rfl⟩
          case measure => simp [intOf]; omega
        · have HN := Lib.hid (take_ne k1 k2 hq)
          have e1 : (xs.getD k 0 != ys.getD k 0) = true := by simpa using hq
          clear hq
          generalize xs.getD k 0 = X at *
          generalize ys.getD k 0 = Y at *
          go_wp2
          go_quiet (fail)
          go_wp2
          go_ret
          refine ⟨?_, _, World.drewN_drewN ..⟩
          exact ret_bool (beq_eq_false_iff_ne.mpr HN.out).symm
      · go_wp2
        go_ret
        refine ⟨?_, _, rfl⟩
        have := HT.out
        rw [List.take_of_length_le (by have := HR.out.len; omega), List.take_of_length_le (by have := HR'.out.len; omega)] at this
        exact ret_bool (beq_iff_eq.mpr this).symm
  · have HN : Hid (xs ≠ ys) := Lib.hid (by
      rintro rfl
      have := HR.out.len; have := HR'.out.len; omega)
    have e1 : ((n : Int) != (n' : Int)) = true := by simp; omega
    go_enter Tryd.func20, Tryd.ntmps20
    go_wp2
    go_ret
    refine ⟨?_, 0, rfl⟩
    exact ret_bool (beq_eq_false_iff_ne.mpr HN.out).symm
def sumOf (xs : List Int) : BitVec 32 := sumMore 0#32 xs
theorem sum_any (a : Option Addr) (n cap : Nat) (xs : List Int) (w : World) (hr : ReadsB w a n cap xs) (hg : Fours w) :
    Calls Tryd.prog 13 #[.slice a n cap] w fun e w' => e = .returned (.int .u32 (reg32 (sumOf xs))) ∧ w = w' := by
  have HR := Lib.hid hr
  have HG := Lib.hid hg
  clear hr hg
  go_enter Tryd.func13, Tryd.ntmps13
  go_wp2_with (go_at_call 15; refine (more_any 0#32 a n cap xs _ HR.out HG.out).mono ?_; rintro e w' ⟨rfl, rfl⟩)
  go_ret
  exact ⟨rfl, rfl⟩
/-- the same, as a region that only reads asks it -/
theorem sum_still (a : Option Addr) (n cap : Nat) (xs : List Int) (w : World) (hr : ReadsB w a n cap xs) (hg : Fours w) :
    Calls Tryd.prog 13 #[.slice a n cap] w fun e w' => e = .returned (.int .u32 (reg32 (sumOf xs))) ∧ w' = w :=
  (sum_any a n cap xs w hr hg).mono fun _ _ h => ⟨h.1, h.2.symm⟩
def markL (xs : List Int) : List Int := xs.take (xs.length - 4) ++ sum4 (sumOf (xs.take (xs.length - 4)))
theorem own_base {w : World} {base : Nat} {v : Value} {xs : List Int} (h : OwnB w base v xs) (k : Nat) (hk : v.ownBlock = some k) : base ≤ k := by
  rcases h.2 with ⟨rfl, _⟩ | ⟨g, cap, cur, rfl, hb, _⟩
  · simp [Value.ownBlock] at hk
  · have : g = k := by simpa [Value.ownBlock] using hk
    omega
theorem markL_bytes {xs : List Int} (h : IsBytes xs) : IsBytes (markL xs) := by
  intro c hc
  unfold markL at hc
  rcases List.mem_append.1 hc with h' | h'
  · exact h c (List.mem_of_mem_take h')
  · exact sum4_byte _ c h'
theorem markL_length {xs : List Int} (h : 4 ≤ xs.length) : (markL xs).length = xs.length := by
  unfold markL
  rw [List.length_append, sum4_length, List.length_take]
  omega
theorem u8_of (x : Int) : IntKind.u8.wrap x = x % 256 := IntKind.wrap_u8 x
def sumL (s : BitVec 32) : List Int := [reg32 s % 256, reg32 s / 256 % 256, reg32 s / 65536 % 256, reg32 s / 16777216]
theorem sumL_eq (s : BitVec 32) : sumL s = sum4 s := by
  unfold sumL sum4
  have := u32_hi s
  have := u32_lo s
  unfold reg32 at *
  congr 4
  omega
theorem sumL_bytes (s : BitVec 32) : IsBytes (sumL s) := by rw [sumL_eq]; exact sum4_byte s
theorem mark_short (a : Option Addr) (n cap : Nat) (xs : List Int) (w : World) (hr : ReadsB w a n cap xs) (h : n < 4) :
    Calls Tryd.prog 11 #[.slice a n cap] w fun e w' => e = .returned (.tuple #[.slice none 0 0, .iface 44 (.int .i64 1)]) ∧ w = w' := by
  have hn := hr.bound
  clear hr
  go_enter Tryd.func11, Tryd.ntmps11
  go_wp2
  go_ret2
  exact ⟨rfl, rfl⟩
set_option maxHeartbeats 1000000 in
theorem mark_any (a : Option Addr) (n cap : Nat) (xs : List Int) (w : World) (hr : ReadsB w a n cap xs) (hg : Fours w) (h : 4 ≤ n) :
    Calls Tryd.prog 11 #[.slice a n cap] w fun e w' => ∃ v, e = .returned (.tuple #[v, .nilIface]) ∧ OwnB w' w.heap.size v (markL xs) ∧ Below w.heap.size w w' := by
  obtain ⟨b, off, rfl, _⟩ := hr.addr (by omega)
  have hn := hr.bound
  have hcap := hr.fits
  have hcap2 := hr.room
  obtain ⟨m, rfl⟩ : ∃ m, n = m + 4 := ⟨n - 4, by omega⟩
  have HR := Lib.hid (hr.take (show m ≤ m + 4 by omega))
  have HL := Lib.hid hr.len
  have HG := Lib.hid hg
  clear hr hg h
  go_enter Tryd.func11, Tryd.ntmps11
  have hs0 := u32_lo (sumOf (xs.take m))
  have hs1 := u32_hi (sumOf (xs.take m))
  go_wp2_with (first | (go_at_call 13; refine (sum_any _ _ _ _ _ HR.out HG.out).mono ?_; rintro e w' ⟨rfl, rfl⟩) | (go_at_call 19; refine (clone_any _ _ _ _ _ HR.out).mono ?_; rintro e w1 ⟨v1, rfl, ho, hB⟩; have HO := Lib.hid ho; have HB := Lib.hid hB; clear ho hB) | (at_builtin; refine wpList_append_bytes rfl _ _ rfl w.heap.size _ (xs.take m) rfl ((HO.out).below ((Below.refl _ _).alloc (Nat.le_refl _) _)) _ 4 4 (sumL (sumOf (xs.take m))) rfl (built_reads _ _ _ (sumL (sumOf (xs.take m))) rfl (sumL_bytes _) (by simp [sumL])) (by simp; omega) (by have := HB.out.size; simp; omega) ?_; intro v2 w2 ho hg; have HB2 := Lib.hid ((HB.out.alloc HB.out.size _).grown hg (by have := HB.out.size; simp; omega) (fun k hk => own_base (HO.out) k hk)); have HO2 := Lib.hid ho; clear ho hg))
  go_ret2
  refine ⟨_, rfl, ?_, HB2.out⟩
  have := HO2.out
  rw [sumL_eq] at this
  unfold markL
  rw [HL.out]
  exact this
end Go.Proofs.YtmgnabfmmmagkaaDoor
