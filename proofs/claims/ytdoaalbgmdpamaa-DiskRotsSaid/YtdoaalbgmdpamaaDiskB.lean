/-
  The walks of package disk's New and Pending, at this seat's numbers.
-/
import Derived.Test.YtdoaalbgmdpamaaDiskA
set_option linter.unusedVariables false
set_option linter.unusedSimpArgs false
namespace Go.Proofs.Ytdoaalbgmdpamaa
open Go Go.RowKit

theorem new_bad (n : Int) (w : World) (h : n < 1 ∨ 16384 < n) :
    Calls Try.prog 6 #[.int .i64 n] w fun e w' => e = .returned (.tuple #[.pointer none, errE 1]) ∧ w = w' := by
  rcases h with h | h
  · go_enter Try.func6, Try.ntmps6
    go_wp2
    go_ret2
    exact ⟨rfl, rfl⟩
  · have h' : ¬ n < 1 := by omega
    go_enter Try.func6, Try.ntmps6
    go_wp2
    go_ret2
    exact ⟨rfl, rfl⟩
theorem Try.infoS : (Try.prog.info? 57).map (fun i => (i.zero, i.size, i.bytes)) = some (some (.agg (Array.replicate 512 (.int .u8 0))), 512, 512) := by kernel_rfl
def zeros (k : Nat) : List Int := List.replicate k 0
def zeroSecs (n : Nat) : List (List Int) := List.replicate n (zeros 512)
theorem zeros_len (k : Nat) : (zeros k).length = k := by unfold zeros; exact List.length_replicate
theorem zeros_isBytes (k : Nat) : IsBytes (zeros k) := zeros_bytes k
theorem zeroSecs_secs (n : Nat) : Secs n (zeroSecs n) := by
  refine ⟨by unfold zeroSecs; exact List.length_replicate, fun s hs => ?_⟩
  obtain ⟨_, rfl⟩ := List.mem_replicate.1 hs
  exact ⟨zeros_len 512, zeros_isBytes 512⟩
theorem zeroSecs_flat (n : Nat) : (zeroSecs n).flatten = zeros (n * 512) := by
  unfold zeroSecs zeros
  exact List.flatten_replicate_replicate
def zerosS (n : Nat) : Array Value := madeCells (Value.agg (Array.replicate 512 (.int .u8 0))).cells (n * 512)
theorem made_same (z : Value) (m n : Nat) (hm : 0 < m) : (madeCells (Array.replicate m z) n).toList = List.replicate n z := by
  apply List.ext_getElem?
  intro j
  by_cases hj : j < n
  · have h2 : j % m < m := Nat.mod_lt _ hm
    simp only [madeCells, Array.toList_map, Array.toList_range, Array.size_replicate, List.getElem?_map, List.getElem?_range hj, List.getElem?_replicate, hj, if_true, Option.map_some]
    rw [getElem!_pos _ _ (by rw [Array.size_replicate]; exact h2), Array.getElem_replicate]
  · simp [madeCells, hj]
theorem zerosS_eq (n : Nat) : zerosS n = (secsV (zeroSecs n)).toArray := by
  apply Array.toList_inj.1
  unfold zerosS secsV bytesV
  rw [show (Value.agg (Array.replicate 512 (Value.int .u8 0))).cells = Array.replicate 512 (Value.int .u8 0) from rfl, made_same _ 512 _ (by decide), zeroSecs_flat, zeros, List.map_replicate]
theorem make_secs (n : Nat) (hn : n ≤ 16384) (W : World) : (Instr.makeSlice 46 (.int .i64 (n : Int)) (.int .i64 (n : Int))).run Try.prog W = .ok (.slice (some ⟨W.heap.size, 0, none⟩) n n) (W.alloc (.cells (zerosS n) 57)) := by
  obtain ⟨i0, hi, hz0, hz1, hz2⟩ := info_parts Try.infoS
  have := run_make (P := Try.prog) W 46 57 i0 _ Try.underlying46 hi hz0 .i64 .i64 (n : Int) (n : Int) (by omega) (Int.le_refl _) (by rw [hz2]; omega) (by omega)
  rw [hz1, Int.toNat_natCast] at this
  exact this
def disk0 (n : Nat) : DiskD := ⟨zeroSecs n, zeroSecs n, [], 0, -1⟩
theorem disk_made (w W : World) (n gd gn gs : Nat) (h1 : 1 ≤ n) (h2 : n ≤ 16384) (hW : W.heap = (((w.alloc (.cells (zerosS n) 57)).alloc (.cells (zerosS n) 57)).alloc (.cells #[.slice (some ⟨gn, 0, none⟩) n n, .slice (some ⟨gs, 0, none⟩) n n, .slice none 0 0, .int .i64 0, .int .i64 (-1)] 53)).heap)
    (hd : gd = w.heap.size + 1 + 1) (hg : gn = w.heap.size ∧ gs = w.heap.size + 1 ∨ gn = w.heap.size + 1 ∧ gs = w.heap.size) : DiskAt W gd gn gs (.slice none 0 0) w.heap.size n (disk0 n) := by
  subst hd
  have r0 : ∀ k, k = w.heap.size ∨ k = w.heap.size + 1 → Row W k (secsV (zeroSecs n)).toArray 57 := by
    intro k hk
    unfold Row
    rw [hW, ← zerosS_eq]
    rcases hk with rfl | rfl
    · exact ((Row.new w (zerosS n) 57).alloc _).alloc _
    · have := (Row.new (w.alloc (.cells (zerosS n) 57)) (zerosS n) 57).alloc (.cells #[.slice (some ⟨gn, 0, none⟩) n n, .slice (some ⟨gs, 0, none⟩) n n, .slice none 0 0, .int .i64 0, .int .i64 (-1)] 53)
      rw [World.size_alloc] at this
      exact this
  have r2 : Row W (w.heap.size + 1 + 1) #[.slice (some ⟨gn, 0, none⟩) n n, .slice (some ⟨gs, 0, none⟩) n n, .slice none 0 0, .int .i64 0, .int .i64 (-1)] 53 := by
    unfold Row
    rw [hW]
    have := Row.new ((w.alloc (.cells (zerosS n) 57)).alloc (.cells (zerosS n) 57)) #[.slice (some ⟨gn, 0, none⟩) n n, .slice (some ⟨gs, 0, none⟩) n n, .slice none 0 0, .int .i64 0, .int .i64 (-1)] 53
    rw [World.size_alloc, World.size_alloc] at this
    exact this
  exact { n1 := h1, n2 := h2, snow := zeroSecs_secs n, ssure := zeroSecs_secs n, plt := fun i hi => (by cases hi), pnd := List.nodup_nil, self := r2, rnow := r0 gn (by omega), rsure := r0 gs (by omega), pend := World.ownsRow_nil _ _ _ _, lbd := ⟨Int.le_refl _, by show (-1 : Int) ≤ _; omega⟩, ne1 := by omega, ne2 := by omega, ne3 := by omega, pne := fun k hk => (by simp [Value.ownBlock] at hk), b1 := by omega, b2 := by omega, b3 := by omega }
theorem new_ok (n : Nat) (w : World) (h1 : 1 ≤ n) (h2 : n ≤ 16384) :
    Calls Try.prog 6 #[.int .i64 (n : Int)] w fun e w' => ∃ gd gn gs, e = .returned (.tuple #[.pointer (some ⟨gd, 0, none⟩), .nilIface]) ∧ DiskAt w' gd gn gs (.slice none 0 0) w.heap.size n (disk0 n) ∧ Below w.heap.size w w' := by
  have hmk := make_secs n h2
  go_enter Try.func6, Try.ntmps6
  go_wp2
  go_region
  all_goals
    go_wp2
    go_ret2
    have hb : ∀ A B C : Obj, Below w.heap.size w (((w.alloc A).alloc B).alloc C).drew := fun A B C => by repeat (first | exact Below.refl _ _ | apply balloc | apply Below.drew)
    first
      | exact ⟨_, w.heap.size, w.heap.size + 1, rfl, disk_made w _ n _ _ _ h1 h2 rfl rfl (by omega), hb _ _ _⟩
      | exact ⟨_, w.heap.size + 1, w.heap.size, rfl, disk_made w _ n _ _ _ h1 h2 rfl rfl (by omega), hb _ _ _⟩
end Go.Proofs.Ytdoaalbgmdpamaa
