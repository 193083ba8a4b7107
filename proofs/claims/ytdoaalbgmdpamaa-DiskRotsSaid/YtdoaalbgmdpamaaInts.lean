/-
  Lists of ints that can be read, and the walks of slices.Index and slices.Contains at ints, at this seat's numbers.
-/
import Derived.Test.YtdoaalbgmdpamaaMem
set_option linter.unusedVariables false
set_option linter.unusedSimpArgs false
namespace Go.Proofs.Ytdoaalbgmdpamaa
open Go Go.RowKit

def iV (l : List Int) : List Value := l.map (Value.int .i64)
theorem iV_get (l : List Int) (k : Nat) (hk : k < l.length) : (iV l)[k]? = some (.int .i64 (l.getD k 0)) := by
  unfold iV
  rw [List.getElem?_map, List.getD_eq_getElem?_getD, List.getElem?_eq_getElem hk]; rfl
theorem iV_len (l : List Int) : (iV l).length = l.length := by simp [iV]
def idxI (xs : List Int) (x : Int) : Int := if x ∈ xs then (xs.idxOf x : Int) else -1
theorem idxI_hit {xs : List Int} {x : Int} {k : Nat} (hk : k < xs.length) (h : xs.getD k 0 = x) (hno : x ∉ xs.take k) : idxI xs x = k := by
  have hm : x ∈ xs := by
    rw [← h, List.getD_eq_getElem?_getD, List.getElem?_eq_getElem hk]; exact List.getElem_mem hk
  unfold idxI
  rw [if_pos hm]
  congr 1
  induction xs generalizing k with
  | nil => simp at hk
  | cons a r ih =>
    cases k with
    | zero => simp at h; subst h; simp
    | succ k =>
      rw [List.take_succ_cons, List.mem_cons, not_or] at hno
      rw [List.getD_cons_succ] at h
      have hr : x ∈ r := by
        rw [← h, List.getD_eq_getElem?_getD, List.getElem?_eq_getElem (by simpa using hk)]; exact List.getElem_mem _
      rw [List.idxOf_cons, show (a == x) = false by simpa using Ne.symm hno.1, cond_false, ih (by simpa using hk) h hno.2 hr]
theorem idxI_miss {xs : List Int} {x : Int} (hno : x ∉ xs) : idxI xs x = -1 := by unfold idxI; rw [if_neg hno]
theorem take_not {xs : List Int} {x : Int} {k : Nat} (hk : k < xs.length) (h : ¬ xs.getD k 0 = x) (hno : x ∉ xs.take k) : x ∉ xs.take (k + 1) := by
  rw [List.take_succ_eq_append_getElem hk, List.mem_append, not_or]
  refine ⟨hno, ?_⟩
  rw [List.getD_eq_getElem?_getD, List.getElem?_eq_getElem hk] at h
  simp only [List.mem_singleton]
  exact fun e => h (by rw [e]; rfl)
theorem ret_i64 {a b : Int} (h : a = b) : Ending.returned (.int .i64 a) = .returned (.int .i64 b) := by rw [h]
set_option maxHeartbeats 1000000 in
theorem index_any (a : Option Addr) (n cap : Nat) (xs : List Int) (x : Int) (w : World) (hr : Reads w a n cap (iV xs)) (hn : n ≤ 140737488351232) :
    Calls Try.prog 23 #[.slice a n cap, .int .i64 x] w fun e w' => e = .returned (.int .i64 (idxI xs x)) ∧ w = w' := by
  have HL : Hid (xs.length = n) := Lib.hid (by rw [← hr.len, iV_len])
  have HR := Lib.hid hr
  clear hr
  go_enter Try.func23, Try.ntmps23
  go_wp2
  go_loop [8] (fun i => ∃ k : Nat, k ≤ n ∧ i = .int .i64 k ∧ x ∉ xs.take k) (fun i => n - (intOf i).toNat)
  case atStart => exact ⟨0, Nat.zero_le _, rfl, by simp⟩
  case round =>
    obtain ⟨k, hk, rfl, hno⟩ := hrel
    have HN := Lib.hid hno
    clear hno
    by_cases hlt : k < n
    · obtain ⟨b, off, rfl, c0⟩ := HR.out.at_ k _ (iV_get xs k (by rw [HL.out]; exact hlt))
      by_cases hq : xs.getD k 0 = x
      · have e1 : (x == xs.getD k 0) = true := by rw [hq]; simp
        have HX := Lib.hid (idxI_hit (by rw [HL.out]; exact hlt) hq HN.out)
        clear hq
        generalize xs.getD k 0 = y at *
        go_wp2
        go_ret
        exact ⟨ret_i64 HX.out.symm, rfl⟩
      · have e1 : (x == xs.getD k 0) = false := by simpa using fun e => hq e.symm
        have HX := Lib.hid (take_not (by rw [HL.out]; exact hlt) hq HN.out)
        clear hq
        generalize xs.getD k 0 = y at *
        go_wp2
        go_round
        case rel => exact ⟨k + 1, by omega, by go_num, HX.out⟩
        case measure => simp [intOf]; omega
    · go_wp2
      go_ret
      have := HN.out
      rw [List.take_of_length_le (by rw [HL.out]; omega)] at this
      exact ⟨ret_i64 (idxI_miss this).symm, rfl⟩
theorem idxI_ge {xs : List Int} {x : Int} : decide (0 ≤ idxI xs x) = decide (x ∈ xs) := by
  unfold idxI
  by_cases h : x ∈ xs
  · rw [if_pos h]; simp [h]
  · rw [if_neg h]; simp [h]
theorem intsV_iV (l : List Nat) : (l.map fun i : Nat => Value.int .i64 (i : Int)) = iV (l.map fun i : Nat => (i : Int)) := by simp [iV]
theorem mem_cast {l : List Nat} {i : Nat} : ((i : Int) ∈ l.map fun i : Nat => (i : Int)) ↔ i ∈ l := by
  rw [List.mem_map]
  constructor
  · rintro ⟨j, hj, e⟩; have : j = i := by omega
    subst this; exact hj
  · exact fun h => ⟨i, h, rfl⟩
theorem contains_any (a : Option Addr) (n cap : Nat) (xs : List Int) (x : Int) (w : World) (hr : Reads w a n cap (iV xs)) (hn : n ≤ 140737488351232) :
    Calls Try.prog 17 #[.slice a n cap, .int .i64 x] w fun e w' => e = .returned (.bool (decide (x ∈ xs))) ∧ w = w' := by
  have HR := Lib.hid hr
  clear hr
  have HE := Lib.hid (idxI_ge (xs := xs) (x := x))
  go_enter Try.func17, Try.ntmps17
  go_wp2_with (go_at_call 23; refine Calls.mono (index_any _ _ _ xs x _ HR.out hn) ?_; rintro e w' ⟨rfl, rfl⟩)
  go_ret
  refine ⟨?_, rfl⟩
  rw [← HE.out]; rfl
/-- the same over natural numbers, with its answer -/
theorem contains_nat (b : Bool) (a : Option Addr) (n cap : Nat) (l : List Nat) (i : Nat) (w : World) (hr : Reads w a n cap (l.map fun i : Nat => Value.int .i64 (i : Int))) (hn : n ≤ 140737488351232) (hb : decide (i ∈ l) = b) :
    Calls Try.prog 17 #[.slice a n cap, .int .i64 (i : Int)] w fun e w' => e = .returned (.bool b) ∧ w = w' := by
  have := contains_any a n cap (l.map fun i : Nat => (i : Int)) (i : Int) w (by rw [← intsV_iV]; exact hr) hn
  rw [show decide ((i : Int) ∈ l.map fun i : Nat => (i : Int)) = b by rw [← hb]; exact decide_eq_decide.2 mem_cast] at this
  exact this
end Go.Proofs.Ytdoaalbgmdpamaa
