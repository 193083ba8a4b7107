/-
  Bytes as strings: the conversion, and that bytes are told by their string; at this seat's numbers.
-/
import Derived.Test.YtmgnabfmmmagkaaDoorSumB
import Derived.Laws.BytesArg
set_option linter.unusedVariables false
set_option linter.unusedSimpArgs false
namespace Go.Proofs.YtmgnabfmmmagkaaDoor
open Go Go.RowKit Crc

/-- bytes as a string -/
def strB (xs : List Int) : ByteArray := strOfNums xs
theorem strB_size (xs : List Int) : (strB xs).size = xs.length := strOfNums_size xs
theorem conv_str {w : World} {a : Option Addr} {n cap : Nat} {xs : List Int} (h : ReadsB w a n cap xs) : (convert 22 9 (.slice a n cap)).run Tryd.prog w = .ok (.string (strB xs)) w := by
  cases a with
  | none =>
    obtain ⟨rfl, rfl⟩ := h.nil rfl
    obtain rfl : xs = [] := List.eq_nil_of_length_eq_zero h.len
    exact run_convert_bytes_nil w 22 5 Tryd.underlying22 Tryd.underlying5 0 0 9 Tryd.underlying9
  | some ad =>
    rcases Nat.eq_zero_or_pos n with h0 | h0
    · subst h0
      obtain rfl : xs = [] := List.eq_nil_of_length_eq_zero h.len
      exact run_convert_bytes_string w 22 9 5 (some ad) 0 cap Tryd.underlying22 Tryd.underlying5 Tryd.underlying9
    · obtain ⟨b, off, e, hc⟩ := h.addr h0
      cases e
      exact run_convert_bytes_arg w 22 5 Tryd.underlying22 Tryd.underlying5 b off n cap xs h.len hc 9 Tryd.underlying9
theorem OwnB.reads' {w : World} {base : Nat} {v : Value} {xs : List Int} {n : Nat} (h : OwnB w base v xs) (hb : IsBytes xs) (hl : xs.length = n) (hn : n ≤ 140737488351232) : ∃ a cap, v = .slice a n cap ∧ ReadsB w a n cap xs := by
  subst hl
  exact h.reads hb hn
theorem byte_of (c : Int) (h : Byte c) : ((UInt8.ofNat c.toNat).toNat : Int) = c := by
  have := h.1; have := h.2
  rw [UInt8.toNat_ofNat']; omega
/-- the string tells the bytes -/
theorem strB_inj {xs ys : List Int} (hx : IsBytes xs) (hy : IsBytes ys) (h : strB xs = strB ys) : xs = ys := by
  have e : xs.map (fun n => UInt8.ofNat n.toNat) = ys.map (fun n => UInt8.ofNat n.toNat) := by
    rw [← strOfNums_data, ← strOfNums_data]; exact congrArg (fun s : ByteArray => s.data.toList) h
  have e2 := congrArg (List.map (fun b : UInt8 => (b.toNat : Int))) e
  rw [List.map_map, List.map_map] at e2
  have id : ∀ l : List Int, IsBytes l → l.map ((fun b : UInt8 => (b.toNat : Int)) ∘ fun n => UInt8.ofNat n.toNat) = l := fun l hl => by
    conv => rhs; rw [← List.map_id l]
    exact List.map_congr_left fun c hc => byte_of c (hl c hc)
  rw [id xs hx, id ys hy] at e2
  exact e2
theorem strB_eql {xs ys : List Int} (hx : IsBytes xs) (hy : IsBytes ys) : ((strB xs).toList == (strB ys).toList) = eqB xs ys := by
  unfold eqB
  rw [ByteArray.toList_eq, ByteArray.toList_eq, Bool.eq_iff_iff, beq_iff_eq, beq_iff_eq]
  exact ⟨fun h => strB_inj hx hy (ByteArray.ext (Array.toList_inj.1 h)), fun h => by rw [h]⟩
end Go.Proofs.YtmgnabfmmmagkaaDoor
