/-
  What a row's reading gives of a slice of bytes that came in.
-/
import Derived.Test.YtmgnabfmmmagkaaDoorSumB
import Derived.WalkKit
import Derived.ProofKit
import Derived.OpenShut
import Derived.SizedLaws
import Derived.WideKeyArr2
set_option linter.unusedVariables false
set_option linter.unusedSimpArgs false
namespace Go.Proofs.YtmgnabfmmmagkaaDoor
open Go.ChangeShapes Go.WideShapes Go.ChangeAt Go.RowKit Crc
theorem reads_arg {H : Type} {enc : TypeId × Value → H} {P : Program} {W : World} {base : Nat} {spare : Nat → Bool} {held : Bool} {t e : TypeId} {a : Option Addr} {len cap : Nat} {d : DataW H} {ps : List MemPlace} {ts : List TypeId} {ds : List (DataW H)} {j : Nat}
    (hsz : (DataW.weightsEach P ts ds).all (· ≤ reachBytes) = true) (ht : ts[j]? = some t) (hd : ds[j]? = some d) (hu : P.underlying t = some (.slice e)) (he : P.underlying e = some (.int .u8)) (hc : P.cellsOf e = 1) (hB : P.bytesOf e = 1)
    (h : DataW.Trod enc P W base spare held t (.slice a len cap) d ps) : ∃ xs, ReadsB W a len cap xs := by
  obtain ⟨fuel, hf⟩ := h
  rcases open_ints hu he hc hf with ⟨hcs, _⟩ | ⟨x, l, c, zs, hcs, _, hl, hm, hz, hx, hcell, hwz⟩
  · simp [Value.cells] at hcs
    obtain ⟨rfl, rfl, rfl⟩ := hcs
    exact ⟨[], rfl, by simp, by simp, by simp, fun _ => ⟨rfl, rfl⟩, fun c hc => by simp at hc, fun h0 => absurd h0 (by simp)⟩
  · simp [Value.cells] at hcs
    obtain ⟨rfl, rfl, rfl⟩ := hcs
    obtain ⟨hx, _⟩ := Prod.mk.inj hx
    subst hx
    have z := sized_slice hsz ht hd hu
    rw [hB] at z
    have hz' : len ≤ zs.length := by
      rw [hz]
      split
      · exact hl
      · exact Nat.le_refl _
    have h1 : (lits (H := H) .u8 (zs.take len)).length + (lits (H := H) .u8 (zs.drop len)).length = zs.length := by
      simp [lits]
      omega
    rw [h1] at z
    have hn : len ≤ 140737488351232 := by unfold reachBytes at z; omega
    refine ⟨zs.take len, by simp; omega, hn, hl, by unfold maxLen at hm; omega, fun e => (by cases e), ?_, ?_⟩
    · intro c hc
      have := hwz c (List.mem_of_mem_take hc)
      unfold Byte
      have hb : 0 ≤ c ∧ c ≤ 255 := by simpa [Lit.wf, IntKind.min, IntKind.max, IntKind.signed, IntKind.bits] using this
      omega
    · intro h0
      obtain ⟨b, off, rfl, hcc⟩ := ints_at hcell (by omega)
      refine ⟨b, off, rfl, fun j hj => ?_⟩
      rw [hcc j (by omega)]
      simp [List.getD_eq_getElem?_getD, List.getElem?_take, hj]
theorem arr3_open {H : Type} {enc : TypeId × Value → H} {P : Program} {W : World} {base : Nat} {spare : Nat → Bool} {held : Bool} {t e : TypeId} {xs : Array Value} {d : DataW H} {ps : List MemPlace}
    (hu : P.underlying t = some (.array 3 e)) (he : P.underlying e = some (.int .i64)) (hc : P.cellsOf e = 1) (ht : P.cellsOf t = 3)
    (h : DataW.Trod enc P W base spare held t (.agg xs) d ps) : ∃ a0 a1 a2 : Int, xs = #[.int .i64 a0, .int .i64 a1, .int .i64 a2] := by
  obtain ⟨fuel, hf⟩ := h
  obtain ⟨ys, m, _, _, hl, hn, hi⟩ := DataW.trod_array hu hf
  simp only [Value.cells] at hl hi
  rw [ht] at hl
  rw [hc] at hi
  obtain ⟨l⟩ := xs
  have hl' : l.length = 3 := by simpa using hl
  match l, hl' with
  | [x0, x1, x2], _ =>
    match ys, hn with
    | [y0, y1, y2], _ =>
      have h0 := hi 0 (by decide)
      have h1 := hi 1 (by decide)
      have h2 := hi 2 (by decide)
      simp at h0 h1 h2
      obtain ⟨a0, e0, _, _⟩ := DataW.trod_int he h0
      obtain ⟨a1, e1, _, _⟩ := DataW.trod_int he h1
      obtain ⟨a2, e2, _, _⟩ := DataW.trod_int he h2
      simp at e0 e1 e2
      exact ⟨a0, a1, a2, by rw [e0, e1, e2]⟩
end Go.Proofs.YtmgnabfmmmagkaaDoor
