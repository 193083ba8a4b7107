/-
  Strings as bytes: the conversion, and strings of lists of bytes, at this seat's numbers.
-/
import Derived.Test.YtdoaalbgmdpamaaMem
import Derived.Laws.IdiomStrings
set_option linter.unusedVariables false
set_option linter.unusedSimpArgs false
namespace Go.Proofs.Ytdoaalbgmdpamaa
open Go Go.RowKit

def bytesOf (s : ByteArray) : List Int := s.data.toList.map fun b => (b.toNat : Int)
theorem bytesOf_len (s : ByteArray) : (bytesOf s).length = s.size := by unfold bytesOf; rw [List.length_map, Array.length_toList]; rfl
theorem bytesOf_bytes (s : ByteArray) : IsBytes (bytesOf s) := by
  intro c hc
  simp only [bytesOf, List.mem_map] at hc
  obtain ⟨b, _, rfl⟩ := hc
  exact ⟨by omega, by have := b.toNat_lt; omega⟩
theorem strB_bytesOf (s : ByteArray) : strB (bytesOf s) = s := by
  apply ByteArray.ext
  apply Array.toList_inj.1
  show (strOfNums (bytesOf s)).data.toList = _
  rw [strOfNums_data, bytesOf, List.map_map]
  conv => rhs; rw [← List.map_id s.data.toList]
  exact List.map_congr_left fun b _ => by simp
theorem bytesOf_strB {xs : List Int} (h : IsBytes xs) : bytesOf (strB xs) = xs := by
  unfold bytesOf
  show (strOfNums xs).data.toList.map _ = _
  rw [strOfNums_data, List.map_map]
  conv => rhs; rw [← List.map_id xs]
  exact List.map_congr_left fun c hc => byte_of c (h c hc)
theorem strB_append (xs ys : List Int) : strB xs ++ strB ys = strB (xs ++ ys) := by
  apply ByteArray.ext
  apply Array.toList_inj.1
  have h1 : ∀ l, (strB l).data.toList = l.map fun n => UInt8.ofNat n.toNat := strOfNums_data
  rw [h1, ByteArray.data_append, Array.toList_append, h1, h1, List.map_append]
def capB (W : World) (s : ByteArray) : Nat := grownCap W s.size 0 5
def bytesW (W : World) (s : ByteArray) : World :=
  W.drew.alloc (.cells (bytesRow s (capB W s)) 5 ((bytesRow s (capB W s)).size, (bytesRow s (capB W s)).size + 1))
theorem conv_bytes (s : ByteArray) (W : World) : (convert 9 34 (.string s)).run Try.prog W = .ok (.slice (some ⟨W.heap.size, 0, none⟩) s.size (capB W s)) (bytesW W s) :=
  run_bytes_of_string W 9 34 5 s Try.underlying9 Try.underlying34 Try.underlying5
theorem conv_bytes_at (s : ByteArray) (n : Nat) (hn : s.size = n) (W : World) : (convert 9 34 (.string s)).run Try.prog W = .ok (.slice (some ⟨W.heap.size, 0, none⟩) n (capB W s)) (bytesW W s) := by
  subst hn; exact conv_bytes s W
theorem bytesW_below (W : World) (s : ByteArray) : Below W.heap.size W (bytesW W s) := ((Below.refl _ _).drew).alloc (Nat.le_refl _) _
theorem bytesW_reads (W : World) (s : ByteArray) (n : Nat) (hn : s.size = n) (h : n ≤ 140737488351232) : ReadsB (bytesW W s) (some ⟨W.heap.size, 0, none⟩) n (capB W s) (bytesOf s) := by
  subst hn
  have h1 : s.size ≤ capB W s := grownCap_ge W s.size 0 5
  have h2 : capB W s ≤ maxLen := grownCap_le_maxLen W s.size 0 5 (by unfold maxLen; omega)
  refine ⟨bytesOf_len s, h, h1, by unfold maxLen at h2; omega, fun e => (by cases e), bytesOf_bytes s, fun h0 => ⟨W.heap.size, 0, rfl, fun j hj => ?_⟩⟩
  have hb : (bytesW W s).heap[W.heap.size]? = some (.cells (bytesRow s (capB W s)) 5 ((bytesRow s (capB W s)).size, (bytesRow s (capB W s)).size + 1)) := heap_alloc_new W.drew _
  rw [Nat.zero_add, cell_of_row _ _ j _ _ _ hb]
  unfold bytesRow
  have hj' : j < s.data.size := hj
  rw [Array.getElem?_append_left (by simpa using hj'), Array.getElem?_map, Array.getElem?_eq_getElem hj', List.getD_eq_getElem?_getD]
  unfold bytesOf
  rw [List.getElem?_map, Array.getElem?_toList, Array.getElem?_eq_getElem hj']
  rfl
theorem bytesW_apart (W : World) (s : ByteArray) (S : Nat → Prop) (h : ∀ k, S k → k < W.heap.size) : Apart S (some ⟨W.heap.size, 0, none⟩) := by
  intro ad e hS
  cases e
  exact absurd (h _ hS) (Nat.lt_irrefl _)
theorem strB_toList_eq {xs ys : List Int} (h : xs = ys) : ((strB xs).toList == (strB ys).toList) = true := by rw [h]; exact beq_self_eq_true _
theorem strB_extract (xs : List Int) (a b : Nat) : (strB xs).extract a b = strB ((xs.take b).drop a) := by
  apply ByteArray.ext
  apply Array.toList_inj.1
  have h1 : ∀ l, (strB l).data.toList = l.map fun n => UInt8.ofNat n.toNat := strOfNums_data
  rw [ByteArray.data_extract, Array.toList_extract, h1, h1, List.extract_eq_take_drop, List.drop_take, ← List.map_drop, ← List.map_take]
end Go.Proofs.Ytdoaalbgmdpamaa
