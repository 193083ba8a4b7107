/-
  The disk in memory, and the walks of package disk's check, Size, Limit, Writes and Read, at this seat's numbers.
-/
import Derived.Test.YtdoaalbgmdpamaaMem
import Derived.Test.YtdoaalbgmdpamaaCloneB
import Derived.Laws.LoneSync
set_option linter.unusedVariables false
set_option linter.unusedSimpArgs false
namespace Go.Proofs.Ytdoaalbgmdpamaa
open Go Go.RowKit

structure DiskD where
  now : List (List Int)
  sure : List (List Int)
  pend : List Nat
  writes : Int
  left : Int
def intsV (l : List Nat) : List Value := l.map fun i : Nat => Value.int .i64 (i : Int)
def secsV (L : List (List Int)) : List Value := bytesV L.flatten
def Secs (n : Nat) (L : List (List Int)) : Prop := L.length = n ∧ ∀ s ∈ L, s.length = 512 ∧ IsBytes s
theorem Secs.flat {n : Nat} {L : List (List Int)} (h : Secs n L) : L.flatten.length = n * 512 := by
  obtain ⟨rfl, h⟩ := h
  induction L with
  | nil => rfl
  | cons s r ih =>
    rw [List.flatten_cons, List.length_append, ih (fun s hs => h s (List.mem_cons_of_mem _ hs)), (h s (List.mem_cons_self ..)).1, List.length_cons]
    omega
theorem Secs.flat_len (L : List (List Int)) (h : ∀ s ∈ L, s.length = 512) : L.flatten.length = L.length * 512 := by
  induction L with
  | nil => rfl
  | cons s r ih =>
    rw [List.flatten_cons, List.length_append, ih (fun s hs => h s (List.mem_cons_of_mem _ hs)), h s (List.mem_cons_self ..), List.length_cons]
    omega
theorem Secs.bytes {n : Nat} {L : List (List Int)} (h : Secs n L) : IsBytes L.flatten := by
  intro c hc
  obtain ⟨s, hs, hc⟩ := List.mem_flatten.1 hc
  exact (h.2 s hs).2 c hc
theorem flat_part (L : List (List Int)) (h : ∀ s ∈ L, s.length = 512) (i : Nat) (hi : i < L.length) : (L.flatten.drop (i * 512)).take 512 = L.getD i [] := by
  induction L generalizing i with
  | nil => simp at hi
  | cons s r ih =>
    have hs := h s (List.mem_cons_self ..)
    cases i with
    | zero => simp only [Nat.zero_mul, List.drop_zero, List.flatten_cons, List.getD_cons_zero]; rw [← hs, List.take_left]
    | succ i =>
      rw [List.flatten_cons, show (i + 1) * 512 = s.length + i * 512 by omega, List.drop_append, List.getD_cons_succ]
      rw [List.drop_eq_nil_of_le (by omega), List.nil_append, show s.length + i * 512 - s.length = i * 512 by omega]
      exact ih (fun s hs => h s (List.mem_cons_of_mem _ hs)) i (by simpa using hi)
theorem flat_set (L : List (List Int)) (h : ∀ s ∈ L, s.length = 512) (i : Nat) (hi : i < L.length) (b : List Int) : (L.set i b).flatten = L.flatten.take (i * 512) ++ b ++ L.flatten.drop (i * 512 + 512) := by
  induction L generalizing i with
  | nil => simp at hi
  | cons s r ih =>
    have hs := h s (List.mem_cons_self ..)
    cases i with
    | zero => simp only [List.set_cons_zero, List.flatten_cons, Nat.zero_mul, List.take_zero, List.nil_append, Nat.zero_add]; rw [← hs, List.drop_left]
    | succ i =>
      rw [List.set_cons_succ, List.flatten_cons, List.flatten_cons, ih (fun s hs => h s (List.mem_cons_of_mem _ hs)) i (by simpa using hi)]
      rw [show (i + 1) * 512 = s.length + i * 512 by omega, List.take_append, List.drop_append]
      rw [List.take_of_length_le (show s.length ≤ s.length + i * 512 by omega), List.drop_eq_nil_of_le (show s.length ≤ s.length + i * 512 + 512 by omega), List.nil_append]
      rw [show s.length + i * 512 - s.length = i * 512 by omega, show s.length + i * 512 + 512 - s.length = i * 512 + 512 by omega]
      simp [List.append_assoc]
theorem Secs.get {n : Nat} {L : List (List Int)} (h : Secs n L) {i : Nat} (hi : i < n) : (L.getD i []).length = 512 ∧ IsBytes (L.getD i []) := by
  have : L.getD i [] ∈ L := by
    rw [List.getD_eq_getElem?_getD, List.getElem?_eq_getElem (by rw [h.1]; exact hi)]
    exact List.getElem_mem _
  exact h.2 _ this
theorem Secs.set {n : Nat} {L : List (List Int)} (h : Secs n L) (i : Nat) {b : List Int} (hb : b.length = 512) (hy : IsBytes b) : Secs n (L.set i b) := by
  refine ⟨by rw [List.length_set]; exact h.1, fun s hs => ?_⟩
  rcases List.mem_or_eq_of_mem_set hs with h' | rfl
  · exact h.2 s h'
  · exact ⟨hb, hy⟩

structure DiskAt (w : World) (gd gn gs : Nat) (pv : Value) (B n : Nat) (D : DiskD) : Prop where
  n1 : 1 ≤ n
  n2 : n ≤ 16384
  snow : Secs n D.now
  ssure : Secs n D.sure
  plt : ∀ i ∈ D.pend, i < n
  pnd : D.pend.Nodup
  self : Row w gd #[.slice (some ⟨gn, 0, none⟩) n n, .slice (some ⟨gs, 0, none⟩) n n, pv, .int .i64 D.writes, .int .i64 D.left] 53
  rnow : Row w gn (secsV D.now).toArray 57
  rsure : Row w gs (secsV D.sure).toArray 57
  pend : w.ownsRow B 3 1 pv (intsV D.pend).length (intsV D.pend)
  lbd : -1 ≤ D.left ∧ D.left ≤ 9223372036854775807
  ne1 : gd ≠ gn
  ne2 : gd ≠ gs
  ne3 : gn ≠ gs
  pne : ∀ k, pv.ownBlock = some k → k ≠ gd ∧ k ≠ gn ∧ k ≠ gs
  b1 : B ≤ gd
  b2 : B ≤ gn
  b3 : B ≤ gs
/-- the disk's own blocks -/
def DS (gd gn gs : Nat) (pv : Value) : Nat → Prop := fun k => k = gd ∨ k = gn ∨ k = gs ∨ pv.ownBlock = some k
theorem DiskAt.kept {S : Nat → Prop} {w w' : World} {gd gn gs : Nat} {pv : Value} {B n : Nat} {D : DiskD} (h : DiskAt w gd gn gs pv B n D) (hk : Kept S w w') (hs : ∀ k, DS gd gn gs pv k → ¬ S k) : DiskAt w' gd gn gs pv B n D :=
  { h with
    self := h.self.kept hk (hs _ (.inl rfl))
    rnow := h.rnow.kept hk (hs _ (.inr (.inl rfl)))
    rsure := h.rsure.kept hk (hs _ (.inr (.inr (.inl rfl))))
    pend := Own.keptS h.pend hk (fun k hk => hs k (.inr (.inr (.inr hk)))) }
theorem DiskAt.below {w w' : World} {gd gn gs : Nat} {pv : Value} {B n : Nat} {D : DiskD} (h : DiskAt w gd gn gs pv B n D) (hb : Below w.heap.size w w') : DiskAt w' gd gn gs pv B n D :=
  h.kept (S := fun _ => False) (Kept.ofBelow hb) (fun _ _ => id)
theorem DiskAt.drewN {w : World} {gd gn gs : Nat} {pv : Value} {B n : Nat} {D : DiskD} (h : DiskAt w gd gn gs pv B n D) (k : Nat) : DiskAt (w.drewN k) gd gn gs pv B n D :=
  h.kept (S := fun _ => False) ((Kept.refl _ _).drewN k) (fun _ _ => id)
theorem DiskAt.old {w : World} {gd gn gs : Nat} {pv : Value} {B n : Nat} {D : DiskD} (h : DiskAt w gd gn gs pv B n D) (k : Nat) (hk : DS gd gn gs pv k) : B ≤ k ∧ k < w.heap.size := by
  rcases hk with rfl | rfl | rfl | hk
  · exact ⟨h.b1, h.self.lt⟩
  · exact ⟨h.b2, h.rnow.lt⟩
  · exact ⟨h.b3, h.rsure.lt⟩
  · exact h.pend.lt k hk

/-- a cell of the disk itself, written: none of its blocks is moved -/
theorem DiskAt.setSelf {w : World} {gd gn gs : Nat} {pv : Value} {B n : Nat} {D D' : DiskD} (h : DiskAt w gd gn gs pv B n D) (j : Nat) (v : Value) (hlb : -1 ≤ D'.left ∧ D'.left ≤ 9223372036854775807) (h1 : D'.now = D.now) (h2 : D'.sure = D.sure) (h3 : D'.pend = D.pend)
    (hs : (#[.slice (some ⟨gn, 0, none⟩) n n, .slice (some ⟨gs, 0, none⟩) n n, pv, .int .i64 D.writes, .int .i64 D.left] : Array Value).setIfInBounds j v = #[.slice (some ⟨gn, 0, none⟩) n n, .slice (some ⟨gs, 0, none⟩) n n, pv, .int .i64 D'.writes, .int .i64 D'.left]) :
    DiskAt (w.setCell ⟨gd, j, none⟩ v) gd gn gs pv B n D' :=
  { n1 := h.n1, n2 := h.n2, snow := by rw [h1]; exact h.snow, ssure := by rw [h2]; exact h.ssure, plt := by rw [h3]; exact h.plt, pnd := by rw [h3]; exact h.pnd
    self := by rw [← hs]; exact h.self.set j v
    rnow := by rw [h1]; exact h.rnow.setOther _ _ (Ne.symm h.ne1)
    rsure := by rw [h2]; exact h.rsure.setOther _ _ (Ne.symm h.ne2)
    pend := by rw [h3]; exact Own.keptS (S := fun k => k = gd) h.pend ((Kept.refl _ _).setCell _ _ (fun _ => rfl)) (fun k hk => (h.pne k hk).1)
    lbd := hlb, ne1 := h.ne1, ne2 := h.ne2, ne3 := h.ne3, pne := h.pne, b1 := h.b1, b2 := h.b2, b3 := h.b3 }
theorem DiskAt.setLeft {w : World} {gd gn gs : Nat} {pv : Value} {B n : Nat} {D : DiskD} (h : DiskAt w gd gn gs pv B n D) (m : Int) (hm : -1 ≤ m ∧ m ≤ 9223372036854775807) : DiskAt (w.setCell ⟨gd, 4, none⟩ (.int .i64 m)) gd gn gs pv B n { D with left := m } :=
  h.setSelf 4 _ hm rfl rfl rfl rfl
theorem DiskAt.setWrites {w : World} {gd gn gs : Nat} {pv : Value} {B n : Nat} {D : DiskD} (h : DiskAt w gd gn gs pv B n D) (m : Int) : DiskAt (w.setCell ⟨gd, 3, none⟩ (.int .i64 m)) gd gn gs pv B n { D with writes := m } :=
  h.setSelf 3 _ h.lbd rfl rfl rfl rfl
abbrev errE (c : Int) : Value := .iface 45 (.int .i64 c)
theorem check_nil (i : Int) (w : World) :
    Calls Try.prog 15 #[.pointer none, .int .i64 i] w fun e w' => e = .returned (errE 1) ∧ w = w' := by
  go_enter Try.func15, Try.ntmps15
  go_wp2
  go_ret
  exact ⟨rfl, rfl⟩
theorem check_range {gd gn gs : Nat} {pv : Value} {B n : Nat} {D : DiskD} (i : Int) (w : World) (h : DiskAt w gd gn gs pv B n D) (hi : i < 0 ∨ (n : Int) ≤ i) :
    Calls Try.prog 15 #[.pointer (some ⟨gd, 0, none⟩), .int .i64 i] w fun e w' => e = .returned (errE 4) ∧ w = w' := by
  have c0 := h.self.cell 0 _ rfl
  clear h
  rcases hi with hi | hi
  · go_enter Try.func15, Try.ntmps15
    go_wp2
    go_ret
    exact ⟨rfl, rfl⟩
  · have hi0 : ¬ i < 0 := by omega
    go_enter Try.func15, Try.ntmps15
    go_wp2
    go_ret
    exact ⟨rfl, rfl⟩
theorem check_ok {gd gn gs : Nat} {pv : Value} {B n : Nat} {D : DiskD} (i : Nat) (w : World) (h : DiskAt w gd gn gs pv B n D) (hi : i < n) :
    Calls Try.prog 15 #[.pointer (some ⟨gd, 0, none⟩), .int .i64 (i : Int)] w fun e w' => e = .returned .nilIface ∧ w = w' := by
  have c0 := h.self.cell 0 _ rfl
  clear h
  go_enter Try.func15, Try.ntmps15
  go_wp2
  go_ret
  exact ⟨rfl, rfl⟩
theorem writes_nil (w : World) :
    Calls Try.prog 14 #[.pointer none] w fun e w' => e = .returned (.int .i64 0) ∧ w = w' := by
  go_enter Try.func14, Try.ntmps14
  go_wp2
  go_ret
  exact ⟨rfl, rfl⟩
theorem load_any (b o : Nat) (x : Int) (w : World) (c : w.cell? ⟨b, o, none⟩ = some (.int .i64 x)) :
    Calls Try.prog 21 #[.pointer (some ⟨b, o, none⟩)] w fun e w' => e = .returned (.int .i64 x) ∧ w = w' := by
  have hl := run_call_load (P := Try.prog) Try.func24 (by kernel_rfl) (by kernel_rfl) (by kernel_rfl) .i64 (by kernel_rfl) c
  go_enter Try.func21, Try.ntmps21
  go_wp2
  go_ret
  exact ⟨rfl, rfl⟩
theorem writes_any {gd gn gs : Nat} {pv : Value} {B n : Nat} {D : DiskD} (w : World) (h : DiskAt w gd gn gs pv B n D) :
    Calls Try.prog 14 #[.pointer (some ⟨gd, 0, none⟩)] w fun e w' => e = .returned (.int .i64 D.writes) ∧ w = w' := by
  have c3 := h.self.cell 3 _ rfl
  clear h
  go_enter Try.func14, Try.ntmps14
  go_wp2_with (go_at_call 21; refine Calls.mono (load_any gd 3 D.writes _ ?_) ?_; exact c3; rintro e w' ⟨rfl, rfl⟩)
  go_ret
  exact ⟨rfl, rfl⟩
theorem read_nil (i : Int) (w : World) :
    Calls Try.prog 12 #[.pointer none, .int .i64 i] w fun e w' => e = .returned (.tuple #[.slice none 0 0, errE 1]) ∧ w = w' := by
  go_enter Try.func12, Try.ntmps12
  go_wp2_with (go_at_call 15; refine Calls.mono (check_nil i _) ?_; rintro e w' ⟨rfl, rfl⟩)
  go_ret2
  exact ⟨rfl, rfl⟩
theorem read_range {gd gn gs : Nat} {pv : Value} {B n : Nat} {D : DiskD} (i : Int) (w : World) (h : DiskAt w gd gn gs pv B n D) (hi : i < 0 ∨ (n : Int) ≤ i) :
    Calls Try.prog 12 #[.pointer (some ⟨gd, 0, none⟩), .int .i64 i] w fun e w' => e = .returned (.tuple #[.slice none 0 0, errE 4]) ∧ w = w' := by
  have H := Lib.hid h
  have HI := Lib.hid hi
  clear h hi
  go_enter Try.func12, Try.ntmps12
  go_wp2_with (go_at_call 15; refine Calls.mono (check_range i _ H.out HI.out) ?_; rintro e w' ⟨rfl, rfl⟩)
  go_ret2
  exact ⟨rfl, rfl⟩
theorem readsB_row {w : World} {g : Nat} {l : List Int} {t : TypeId} (h : Row w g (bytesV l).toArray t) (o m cap : Nat) (hb : IsBytes l) (hl : o + m ≤ l.length) (hm : m ≤ 140737488351232) (hc : m ≤ cap) (hc2 : cap ≤ 9223372036854775807) : ReadsB w (some ⟨g, o, none⟩) m cap ((l.drop o).take m) := by
  refine ⟨by simp; omega, hm, hc, hc2, fun e => (by cases e), fun c hc => hb c (List.mem_of_mem_drop (List.mem_of_mem_take hc)), fun _ => ⟨g, o, rfl, fun j hj => ?_⟩⟩
  have := h.range o m j (.int .u8 (((l.drop o).take m).getD j 0)) (by
    rw [bytesV, ← List.map_drop, ← List.map_take, List.getElem?_map, List.getD_eq_getElem?_getD, List.getElem?_eq_getElem (by simp; omega)]; rfl)
  exact this
theorem DiskAt.readNow {w : World} {gd gn gs : Nat} {pv : Value} {B n : Nat} {D : DiskD} (h : DiskAt w gd gn gs pv B n D) {i : Nat} (hi : i < n) : ReadsB w (some ⟨gn, i * 512, none⟩) 512 512 (D.now.getD i []) := by
  have := readsB_row h.rnow (i * 512) 512 512 h.snow.bytes (by rw [h.snow.flat]; omega) (by omega) (by omega) (by omega)
  rw [flat_part D.now (fun s hs => (h.snow.2 s hs).1) i (by rw [h.snow.1]; exact hi)] at this
  exact this
theorem DiskAt.readSure {w : World} {gd gn gs : Nat} {pv : Value} {B n : Nat} {D : DiskD} (h : DiskAt w gd gn gs pv B n D) {i : Nat} (hi : i < n) : ReadsB w (some ⟨gs, i * 512, none⟩) 512 512 (D.sure.getD i []) := by
  have := readsB_row h.rsure (i * 512) 512 512 h.ssure.bytes (by rw [h.ssure.flat]; omega) (by omega) (by omega) (by omega)
  rw [flat_part D.sure (fun s hs => (h.ssure.2 s hs).1) i (by rw [h.ssure.1]; exact hi)] at this
  exact this
theorem read_ok {gd gn gs : Nat} {pv : Value} {B n : Nat} {D : DiskD} (i : Nat) (w : World) (h : DiskAt w gd gn gs pv B n D) (hi : i < n) :
    Calls Try.prog 12 #[.pointer (some ⟨gd, 0, none⟩), .int .i64 (i : Int)] w fun e w' => ∃ v, e = .returned (.tuple #[v, .nilIface]) ∧ OwnB w' w.heap.size v (D.now.getD i []) ∧ Below w.heap.size w w' := by
  have c0 := h.self.cell 0 _ rfl
  have HR := Lib.hid (h.readNow hi)
  have H := Lib.hid h
  have hn := h.n2
  clear h
  go_enter Try.func12, Try.ntmps12
  go_wp2_with (first | (go_at_call 15; refine Calls.mono (check_ok i _ H.out hi) ?_; rintro e w' ⟨rfl, rfl⟩) | (go_at_call 20; refine Calls.mono (clone_any _ _ _ _ _ HR.out) ?_; rintro e w1 ⟨v1, rfl, ho, hB⟩; have HO := Lib.hid ho; have HB := Lib.hid hB; clear ho hB))
  go_ret2
  exact ⟨_, rfl, HO.out, HB.out⟩
end Go.Proofs.Ytdoaalbgmdpamaa
