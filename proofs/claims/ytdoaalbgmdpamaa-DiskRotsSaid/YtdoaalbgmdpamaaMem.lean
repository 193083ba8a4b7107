/-
  Words on what is kept, on rows that are known whole, and on readable lists of one-cell values, at this seat's numbers.
-/
import Derived.Test.YtdoaalbgmdpamaaBytes
set_option linter.unusedVariables false
set_option linter.unusedSimpArgs false
namespace Go.Proofs.Ytdoaalbgmdpamaa
open Go Go.RowKit

/-- all old blocks but those of S are as they were -/
structure Kept (S : Nat → Prop) (w w' : World) : Prop where
  os : w'.os = w.os
  tape : w'.tape = w.tape
  output : w'.output = w.output
  size : w.heap.size ≤ w'.heap.size
  block : ∀ k, k < w.heap.size → ¬ S k → w'.heap[k]? = w.heap[k]?
theorem Kept.refl (S : Nat → Prop) (w : World) : Kept S w w := ⟨rfl, rfl, rfl, Nat.le_refl _, fun _ _ _ => rfl⟩
theorem Kept.trans {S : Nat → Prop} {w w1 w2 : World} (h : Kept S w w1) (k : Kept S w1 w2) : Kept S w w2 :=
  ⟨k.os.trans h.os, k.tape.trans h.tape, k.output.trans h.output, Nat.le_trans h.size k.size, fun i hi hS => (k.block i (Nat.lt_of_lt_of_le hi h.size) hS).trans (h.block i hi hS)⟩
theorem Kept.mono {S T : Nat → Prop} {w w' : World} (h : Kept S w w') (hs : ∀ k, k < w.heap.size → S k → T k) : Kept T w w' :=
  ⟨h.os, h.tape, h.output, h.size, fun i hi hT => h.block i hi (fun hS => hT (hs i hi hS))⟩
/-- a second step whose set is told of old blocks alone -/
theorem Kept.step {S T : Nat → Prop} {w w1 w2 : World} (h : Kept S w w1) (k : Kept T w1 w2) (hs : ∀ i, i < w.heap.size → T i → S i) : Kept S w w2 :=
  ⟨k.os.trans h.os, k.tape.trans h.tape, k.output.trans h.output, Nat.le_trans h.size k.size, fun i hi hS => (k.block i (Nat.lt_of_lt_of_le hi h.size) (fun hT => hS (hs i hi hT))).trans (h.block i hi hS)⟩
theorem Kept.drew {S : Nat → Prop} {w w' : World} (h : Kept S w w') : Kept S w w'.drew := ⟨h.os, h.tape, h.output, h.size, h.block⟩
theorem Kept.drewN {S : Nat → Prop} {w w' : World} (h : Kept S w w') (n : Nat) : Kept S w (w'.drewN n) := ⟨h.os, h.tape, h.output, h.size, h.block⟩
theorem Kept.alloc {S : Nat → Prop} {w w' : World} (h : Kept S w w') (o : Obj) : Kept S w (w'.alloc o) :=
  h.trans ⟨rfl, rfl, rfl, by simp, fun i hi _ => Below.heap_alloc w' o i hi⟩
theorem Kept.setCell {S : Nat → Prop} {w w' : World} (h : Kept S w w') (a : Addr) (v : Value) (ha : a.block < w.heap.size → S a.block) : Kept S w (w'.setCell a v) :=
  ⟨h.os, h.tape, h.output, by simpa [World.setCell] using h.size, fun i hi hS => (Below.heap_setCell w' a v i (fun e => hS (by subst e; exact ha hi))).trans (h.block i hi hS)⟩
theorem setCells_os (b : Nat) : ∀ (vs : List Value) (o : Nat) (w : World), (w.setCells b o vs).os = w.os ∧ (w.setCells b o vs).tape = w.tape ∧ (w.setCells b o vs).output = w.output ∧ (w.setCells b o vs).heap.size = w.heap.size
  | [], _, _ => ⟨rfl, rfl, rfl, rfl⟩
  | v :: r, o, w => by
    rw [World.setCells]
    obtain ⟨h1, h2, h3, h4⟩ := setCells_os b r (o + 1) (w.setCell ⟨b, o, none⟩ v)
    exact ⟨h1, h2, h3, by rw [h4]; simp [World.setCell]⟩
theorem heap_setCells_other (b : Nat) : ∀ (vs : List Value) (o : Nat) (w : World) (k : Nat), k ≠ b → (w.setCells b o vs).heap[k]? = w.heap[k]?
  | [], _, _, _, _ => rfl
  | v :: r, o, w, k, h => by
    rw [World.setCells, heap_setCells_other b r (o + 1) _ k h]
    exact Below.heap_setCell w ⟨b, o, none⟩ v k h
theorem Kept.setCells {S : Nat → Prop} {w w' : World} (h : Kept S w w') (b o : Nat) (vs : List Value) (ha : b < w.heap.size → S b) : Kept S w (w'.setCells b o vs) := by
  obtain ⟨h1, h2, h3, h4⟩ := setCells_os b vs o w'
  exact ⟨h1.trans h.os, h2.trans h.tape, h3.trans h.output, by rw [h4]; exact h.size, fun i hi hS => (heap_setCells_other b vs o w' i (fun e => hS (by subst e; exact ha hi))).trans (h.block i hi hS)⟩
theorem Kept.grown {S : Nat → Prop} {w w' w'' : World} {row : Option Nat} (h : Kept S w w') (hg : w'.grownBy w'' row) (ha : ∀ k, row = some k → k < w.heap.size → S k) : Kept S w w'' :=
  ⟨hg.os.trans h.os, hg.tape.trans h.tape, hg.output.trans h.output, Nat.le_trans h.size hg.size, fun i hi hS => (hg.block i (Nat.lt_of_lt_of_le hi h.size) (fun e => hS (ha i e.symm hi))).trans (h.block i hi hS)⟩
theorem Kept.below {S : Nat → Prop} {w w' w'' : World} (h : Kept S w w') (hb : Below w'.heap.size w' w'') : Kept S w w'' :=
  h.trans ⟨hb.os, hb.tape, hb.output, hb.size, fun i hi _ => hb.block i hi⟩
theorem Kept.ofBelow {S : Nat → Prop} {w w' : World} (hb : Below w.heap.size w w') : Kept S w w' := (Kept.refl S w).below hb
theorem Kept.toBelow {S : Nat → Prop} {B : Nat} {w w' : World} (h : Kept S w w') (hB : B ≤ w.heap.size) (hs : ∀ k, S k → B ≤ k) : Below B w w' :=
  ⟨h.os, h.tape, h.output, h.size, fun i hi => h.block i (Nat.lt_of_lt_of_le hi hB) (fun hS => by have := hs i hS; omega)⟩
theorem Kept.cell {S : Nat → Prop} {w w' : World} (h : Kept S w w') {a : Addr} {v : Value} (hc : w.cell? a = some v) (ha : ¬ S a.block) : w'.cell? a = some v :=
  (World.cell?_of_block (h.block a.block (World.block_lt_of_cell? w a hc) ha)).trans hc

/-! ### a row that is known whole -/
def Row (w : World) (g : Nat) (cs : Array Value) (t : TypeId) : Prop := w.heap[g]? = some (.cells cs t (0, 0))
theorem Row.lt {w : World} {g : Nat} {cs : Array Value} {t : TypeId} (h : Row w g cs t) : g < w.heap.size := (Array.getElem?_eq_some_iff.1 h).1
theorem Row.cell {w : World} {g : Nat} {cs : Array Value} {t : TypeId} (h : Row w g cs t) (j : Nat) (v : Value) (hv : cs[j]? = some v) : w.cell? ⟨g, j, none⟩ = some v := by
  rw [cell_of_row w g j cs t (0, 0) h]; exact hv
theorem Row.free {w : World} {g : Nat} {cs : Array Value} {t : TypeId} (h : Row w g cs t) (j : Nat) : w.frozen? ⟨g, j, none⟩ = false := frozen_of_row w g j cs t h
theorem Row.kept {S : Nat → Prop} {w w' : World} {g : Nat} {cs : Array Value} {t : TypeId} (h : Row w g cs t) (hk : Kept S w w') (hg : ¬ S g) : Row w' g cs t := (hk.block g h.lt hg).trans h
theorem Row.drew {w : World} {g : Nat} {cs : Array Value} {t : TypeId} (h : Row w g cs t) : Row w.drew g cs t := h
theorem Row.drewN {w : World} {g : Nat} {cs : Array Value} {t : TypeId} (h : Row w g cs t) (n : Nat) : Row (w.drewN n) g cs t := h
theorem Row.alloc {w : World} {g : Nat} {cs : Array Value} {t : TypeId} (h : Row w g cs t) (o : Obj) : Row (w.alloc o) g cs t := (Below.heap_alloc w o g h.lt).trans h
theorem Row.new (w : World) (cs : Array Value) (t : TypeId) : Row (w.alloc (.cells cs t)) w.heap.size cs t := heap_alloc_new w _
theorem Row.set {w : World} {g : Nat} {cs : Array Value} {t : TypeId} (h : Row w g cs t) (j : Nat) (v : Value) : Row (w.setCell ⟨g, j, none⟩ v) g (cs.setIfInBounds j v) t := by
  unfold Row
  rw [heap_setCell_same w g j cs t v h]
theorem Row.setOther {w : World} {g : Nat} {cs : Array Value} {t : TypeId} (h : Row w g cs t) (a : Addr) (v : Value) (hne : g ≠ a.block) : Row (w.setCell a v) g cs t := (Below.heap_setCell w a v g hne).trans h
theorem Row.setsOther {w : World} {g : Nat} {cs : Array Value} {t : TypeId} (h : Row w g cs t) (b o : Nat) (vs : List Value) (hne : g ≠ b) : Row (w.setCells b o vs) g cs t := (heap_setCells_other b vs o w g hne).trans h
theorem Row.grown {w w' : World} {g : Nat} {cs : Array Value} {t : TypeId} {row : Option Nat} (h : Row w g cs t) (hg : w.grownBy w' row) (hne : some g ≠ row) : Row w' g cs t := (hg.block g h.lt hne).trans h
theorem Row.below {w w' : World} {g : Nat} {cs : Array Value} {t : TypeId} {B : Nat} (h : Row w g cs t) (hb : Below B w w') (hg : g < B) : Row w' g cs t := (hb.block g hg).trans h
/-- the cells of a list, from a place on, written over -/
def splice (l : List Value) (o : Nat) (vs : List Value) : List Value := l.take o ++ vs ++ l.drop (o + vs.length)
theorem splice_nil (l : List Value) (o : Nat) : splice l o [] = l := by simp [splice]
theorem splice_cons (l : List Value) (o : Nat) (v : Value) (r : List Value) (h : o + (r.length + 1) ≤ l.length) : splice (l.set o v) (o + 1) r = splice l o (v :: r) := by
  unfold splice
  have e1 : (l.set o v).take (o + 1) = l.take o ++ [v] := by
    rw [List.take_set, List.take_succ_eq_append_getElem (by omega), List.set_append_right _ _ (by simp; omega)]
    congr 1
    simp [List.length_take, Nat.min_eq_left (show o ≤ l.length by omega)]
  have e2 : (l.set o v).drop (o + 1 + r.length) = l.drop (o + 1 + r.length) := by
    rw [List.drop_set_of_lt (by omega)]
  rw [e1, e2]
  simp [List.append_assoc, Nat.add_assoc, Nat.add_comm 1]
theorem Row.sets {g : Nat} {t : TypeId} : ∀ (vs : List Value) (o : Nat) (w : World) (l : List Value), Row w g l.toArray t → o + vs.length ≤ l.length → Row (w.setCells g o vs) g (splice l o vs).toArray t
  | [], o, w, l, h, _ => by rw [splice_nil]; exact h
  | v :: r, o, w, l, h, hl => by
    have hl' : o + (r.length + 1) ≤ l.length := by simpa using hl
    rw [World.setCells, ← splice_cons l o v r hl']
    refine Row.sets r (o + 1) _ (l.set o v) ?_ (by simp; omega)
    have := h.set o v
    rw [List.setIfInBounds_toArray] at this
    exact this
theorem Row.range {w : World} {g : Nat} {l : List Value} {t : TypeId} (h : Row w g l.toArray t) (o n : Nat) : w.rangeAt g o ((l.drop o).take n) := by
  intro j v hv
  rw [cell_of_row w g (o + j) _ t (0, 0) h]
  have hj : j < n := by
    rcases Nat.lt_or_ge j n with h' | h'
    · exact h'
    · rw [List.getElem?_eq_none (by simp; omega)] at hv; cases hv
  rw [List.getElem?_take_of_lt hj, List.getElem?_drop] at hv
  simpa using hv
theorem Row.there {w : World} {g : Nat} {l : List Value} {t : TypeId} (h : Row w g l.toArray t) (o n : Nat) (hn : o + n ≤ l.length) : w.there g o n := by
  intro j hj
  refine ⟨?_, h.free _⟩
  rw [cell_of_row w g (o + j) _ t (0, 0) h]
  simp
  omega

/-! ### lists of one-cell values that can be read -/
structure Reads (w : World) (a : Option Addr) (n cap : Nat) (vs : List Value) : Prop where
  len : vs.length = n
  fits : n ≤ cap
  room : cap ≤ 9223372036854775807
  nil : a = none → n = 0 ∧ cap = 0
  addr : 0 < n → ∃ b off, a = some ⟨b, off, none⟩ ∧ ∀ j v, vs[j]? = some v → w.cell? ⟨b, off + j, none⟩ = some v
/-- a slice lies in none of these blocks -/
def Apart (S : Nat → Prop) (a : Option Addr) : Prop := ∀ ad, a = some ad → ¬ S ad.block
theorem Reads.kept {S : Nat → Prop} {w w' : World} {a : Option Addr} {n cap : Nat} {vs : List Value} (h : Reads w a n cap vs) (hk : Kept S w w') (ha : Apart S a) : Reads w' a n cap vs :=
  ⟨h.len, h.fits, h.room, h.nil, fun hn => by
    obtain ⟨b, off, rfl, hc⟩ := h.addr hn
    exact ⟨b, off, rfl, fun j v hv => hk.cell (hc j v hv) (show ¬ S b from ha ⟨b, off, none⟩ rfl)⟩⟩
theorem Reads.below {w w' : World} {a : Option Addr} {n cap : Nat} {vs : List Value} (h : Reads w a n cap vs) (hb : Below w.heap.size w w') : Reads w' a n cap vs :=
  h.kept (S := fun _ => False) (Kept.ofBelow hb) (fun _ _ => id)
theorem Reads.drewN {w : World} {a : Option Addr} {n cap : Nat} {vs : List Value} (h : Reads w a n cap vs) (k : Nat) : Reads (w.drewN k) a n cap vs := ⟨h.len, h.fits, h.room, h.nil, h.addr⟩
theorem Reads.at_ {w : World} {a : Option Addr} {n cap : Nat} {vs : List Value} (h : Reads w a n cap vs) (j : Nat) (v : Value) (hv : vs[j]? = some v) : ∃ b off, a = some ⟨b, off, none⟩ ∧ w.cell? ⟨b, off + j, none⟩ = some v := by
  have hj : j < n := by rw [← h.len]; exact (List.getElem?_eq_some_iff.1 hv).1
  obtain ⟨b, off, rfl, hc⟩ := h.addr (by omega)
  exact ⟨b, off, rfl, hc j v hv⟩
theorem ReadsB.keptS {S : Nat → Prop} {w w' : World} {a : Option Addr} {n cap : Nat} {xs : List Int} (h : ReadsB w a n cap xs) (hk : Kept S w w') (ha : Apart S a) : ReadsB w' a n cap xs :=
  ⟨h.len, h.bound, h.fits, h.room, h.nil, h.byte, fun hn => by
    obtain ⟨b, off, rfl, hc⟩ := h.addr hn
    exact ⟨b, off, rfl, fun j hj => hk.cell (hc j hj) (show ¬ S b from ha ⟨b, off, none⟩ rfl)⟩⟩
theorem OwnB.keptS {S : Nat → Prop} {w w' : World} {base : Nat} {v : Value} {xs : List Int} (h : OwnB w base v xs) (hk : Kept S w w') (ha : ∀ k, v.ownBlock = some k → ¬ S k) : OwnB w' base v xs := by
  refine ⟨h.1, ?_⟩
  rcases h.2 with hn | ⟨g, cap, cur, rfl, hb, hgg, rest⟩
  · exact .inl hn
  · refine .inr ⟨g, cap, cur, rfl, hb, ?_, rest⟩
    rw [hk.block g (Array.getElem?_eq_some_iff.1 hgg).1 (ha g rfl)]
    exact hgg
theorem Own.keptS {e size : Nat} {S : Nat → Prop} {w w' : World} {base : Nat} {v : Value} {n : Nat} {xs : List Value} (h : w.ownsRow base e size v n xs) (hk : Kept S w w') (ha : ∀ k, v.ownBlock = some k → ¬ S k) : w'.ownsRow base e size v n xs := by
  refine ⟨h.1, ?_⟩
  rcases h.2 with hn | ⟨g, cap, cur, rfl, hb, hgg, rest⟩
  · exact .inl hn
  · refine .inr ⟨g, cap, cur, rfl, hb, ?_, rest⟩
    rw [hk.block g (Array.getElem?_eq_some_iff.1 hgg).1 (ha g rfl)]
    exact hgg
theorem Own.reads {e : Nat} {w : World} {base : Nat} {v : Value} {xs : List Value} (h : w.ownsRow base e 1 v xs.length xs) : ∃ a cap, v = .slice a xs.length cap ∧ Reads w a xs.length cap xs ∧ ∀ S : Nat → Prop, (∀ k, v.ownBlock = some k → ¬ S k) → Apart S a := by
  have h' := h
  rcases h.2 with ⟨rfl, e⟩ | ⟨g, cap, cur, rfl, _, hh, h1, h2, _⟩
  · have : xs = [] := List.eq_nil_of_length_eq_zero e
    subst this
    exact ⟨none, 0, rfl, ⟨rfl, by simp, by simp, fun _ => ⟨rfl, rfl⟩, fun h0 => absurd h0 (by simp)⟩, fun S _ ad e => by cases e⟩
  · refine ⟨_, cap, rfl, ⟨rfl, h1, by unfold maxLen at h2; omega, fun e => (by cases e), fun _ => ?_⟩, fun S hS ad e => by cases e; exact hS g rfl⟩
    refine ⟨g, 0, rfl, fun j v hv => ?_⟩
    have := h'.cells (g := g) rfl j v hv
    simpa [addB] using this
/-! ### append: where the new row lies -/
theorem run_append_at {P : Program} (w : World) (base : Nat) (t ty e : TypeId) (i : TypeInfo) (z : Value) (size bytes : Nat) (ht : P.underlying t = some (.slice e)) (hi : P.info? e = some i) (hz : i.zero = some z)
    (hsize : i.size = size) (hby : i.bytes = bytes) (hzs : z.cells.size = size) (hsz : 0 < size)
    (v : Value) (n : Nat) (xs : List Value) (hown : w.ownsRow base e size v n xs)
    (a : Addr) (m c : Nat) (news : List Value) (hl : news.length = m * size) (hnews : ∀ j u, news[j]? = some u → w.cell? (a.add j) = some u) (h1 : ∀ u ∈ news, u.oneCell' = true)
    (h63 : n + m ≤ maxLen) (hbytes : (n + m) * bytes ≤ 140737488355328) (hbase : base ≤ w.heap.size) :
    ∃ v' w', (Builtin.append_ #[t, t] ty #[v, .slice (some a) m c]).run P w = .ok v' w' ∧ w'.ownsRow base e size v' (n + m) (xs ++ news) ∧ w.grownBy w' v.ownBlock ∧
      (∀ k, v'.ownBlock = some k → v.ownBlock = some k ∨ w.heap.size ≤ k) := by
  obtain ⟨v', w', hr, h2, h3, _⟩ := run_append_own (P := P) w base t ty e i z size bytes ht hi hz hsize hby hzs hsz v n xs hown a m c news hl hnews h1 h63 hbytes hbase
  refine ⟨v', w', hr, h2, h3, fun k hk => ?_⟩
  rcases hown.2 with ⟨rfl, rfl⟩ | ⟨g, cap, cur, rfl, hbg, hg, hnc, hcm, hcs, htake⟩
  · have hx : xs = [] := List.eq_nil_of_length_eq_zero (by simpa using hown.1)
    subst hx
    obtain ⟨v2, w2, hr2, k2, _⟩ := run_append_own (P := P) w w.heap.size t ty e i z size bytes ht hi hz hsize hby hzs hsz (.slice none 0 0) 0 [] (World.ownsRow_nil _ _ _ _) a m c news hl hnews h1 h63 hbytes (Nat.le_refl _)
    rw [hr] at hr2
    cases hr2
    exact .inr (k2.lt k hk).1
  · by_cases hroom : n + m ≤ cap
    · have hr2 := run_append_room (P := P) w t ty e i ht hi g n cap cur hg a m c news (by rw [hl, hsize]) hnews h1 hroom (by rw [hl, hcs, hsize, ← Nat.add_mul]; exact Nat.mul_le_mul_right _ hroom)
      rw [hr] at hr2
      cases hr2
      exact .inl hk
    · have holds : ∀ j u, xs[j]? = some u → w.cell? ((⟨g, 0, none⟩ : Addr).add j) = some u := hown.cells (g := g) rfl
      have hm63 : n + m ≤ 9223372036854775807 := by simp only [maxLen] at h63; omega
      have hr2 := run_append_grow (P := P) w t ty e i z ht hi hz ⟨g, 0, none⟩ n cap xs (by rw [hown.1, hsize]) holds a m c news (by rw [hl, hsize]) hnews (by omega) (by omega) (growslice_fits (by omega) (by rw [hby]; exact hbytes))
      rw [hr] at hr2
      cases hr2
      have : w.heap.size = k := by simpa [Value.ownBlock] using hk
      exact .inr (by omega)
theorem wp_append_at {P : Program} {o : Oper} {a : Act} {K : Act → World → Prop} {Q : Exit → Act → World → Prop} {w : World} (s x : Operand) (t : TypeId)
    (ho : o.op = .call { callee := .builtin .append, args := #[s, x], argTypes := #[t, t] })
    (base : Nat) (e : TypeId) (i : TypeInfo) (z : Value) (size bytes : Nat) (ht : P.underlying t = some (.slice e)) (hi : P.info? e = some i) (hz : i.zero = some z)
    (hsize : i.size = size) (hby : i.bytes = bytes) (hzs : z.cells.size = size) (hsz : 0 < size)
    (v : Value) (n : Nat) (xs : List Value) (hs : a.eval s = v) (hown : w.ownsRow base e size v n xs)
    (ad : Addr) (m c : Nat) (news : List Value) (hx : a.eval x = .slice (some ad) m c) (hl : news.length = m * size) (hnews : ∀ j u, news[j]? = some u → w.cell? (ad.add j) = some u) (h1 : ∀ u ∈ news, u.oneCell' = true)
    (h63 : n + m ≤ maxLen) (hbytes : (n + m) * bytes ≤ 140737488355328) (hbase : base ≤ w.heap.size)
    (h : ∀ v' w', w'.ownsRow base e size v' (n + m) (xs ++ news) → w.grownBy w' v.ownBlock → (∀ k, v'.ownBlock = some k → v.ownBlock = some k ∨ w.heap.size ≤ k) → K (a.put o.dst v') w') : o.wp P a w K Q := by
  obtain ⟨v', w', hr, h2, h3, h4⟩ := run_append_at (P := P) w base t o.type e i z size bytes ht hi hz hsize hby hzs hsz v n xs hown ad m c news hl hnews h1 h63 hbytes hbase
  unfold Oper.wp execOp
  simp only [ho, resolve, invoke, builtin, Sem.run_bind, Sem.run_pure, Result.andThen_ok, List.map_toArray, List.map_cons, List.map_nil, hs, hx, hr]
  exact h v' w' h2 h3 h4
/-- 'append(own, v)' of one value that lies in a block of its own -/
theorem wpList_append_one {P : Program} {ops : Array Oper} {rest : List Oper} {o : Oper} {a : Act} {Q : Exit → Act → World → Prop} {w : World} (hgd : o.guard = none) (s x : Operand) (t : TypeId)
    (ho : o.op = .call { callee := .builtin .append, args := #[s, x], argTypes := #[t, t] })
    (base : Nat) (e : TypeId) (z : Value) (bytes : Nat) (ht : P.underlying t = some (.slice e)) (hinfo : (P.info? e).map (fun i => (i.zero, i.size, i.bytes)) = some (some z, 1, bytes)) (hzs : z.cells.size = 1)
    (v : Value) (xs : List Value) (hs : a.eval s = v) (hown : w.ownsRow base e 1 v xs.length xs)
    (ad : Addr) (u : Value) (hx : a.eval x = .slice (some ad) 1 1) (hu : w.cell? ad = some u) (h1 : u.oneCell' = true)
    (hbytes : (xs.length + 1) * bytes ≤ 140737488355328) (hb0 : 0 < bytes) (hbase : base ≤ w.heap.size)
    (h : ∀ v' w', w'.ownsRow base e 1 v' (xs ++ [u]).length (xs ++ [u]) → w.grownBy w' v.ownBlock → (∀ k, v'.ownBlock = some k → v.ownBlock = some k ∨ w.heap.size ≤ k) → wpList P ops Q rest (a.put o.dst v') w') : wpList P ops Q (o :: rest) a w := by
  obtain ⟨i0, hi, hz0, hz1, hz2⟩ := info_parts hinfo
  have h63 : xs.length + 1 ≤ maxLen := by
    have : xs.length + 1 ≤ (xs.length + 1) * bytes := Nat.le_mul_of_pos_right _ hb0
    unfold maxLen; omega
  refine wpList_plain hgd fun _ hK => wp_append_at s x t ho base e i0 z 1 bytes ht hi hz0 hz1 hz2 hzs (by decide) v xs.length xs hs hown ad 1 1 [u] hx rfl ?_ ?_ h63 hbytes hbase fun v' w' k1 k2 k3 => hK _ _ (h v' w' ?_ k2 k3)
  · intro j u' hj
    match j, hj with
    | 0, hj => simp at hj; subst hj; simpa [Addr.add] using hu
  · intro u' hu'
    simp at hu'
    subst hu'
    exact h1
  · rw [List.length_append]; exact k1
end Go.Proofs.Ytdoaalbgmdpamaa
