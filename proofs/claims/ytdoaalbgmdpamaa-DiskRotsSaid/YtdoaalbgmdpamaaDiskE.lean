/-
  The walks of package disk's may and Crash, at this seat's numbers.
-/
import Derived.Test.YtdoaalbgmdpamaaDiskD
set_option linter.unusedVariables false
set_option linter.unusedSimpArgs false
namespace Go.Proofs.Ytdoaalbgmdpamaa
open Go Go.RowKit

/-- which of m places a list of numbers names -/
def seenV (m : Nat) (l : List Int) : List Value := (List.range m).map fun j : Nat => Value.bool (decide ((j : Int) ∈ l))
theorem seenV_len (m : Nat) (l : List Int) : (seenV m l).length = m := by simp [seenV]
theorem seenV_get (m : Nat) (l : List Int) (x : Nat) (hx : x < m) : (seenV m l)[x]? = some (.bool (decide ((x : Int) ∈ l))) := by
  unfold seenV
  rw [List.getElem?_map, List.getElem?_range hx]; rfl
theorem seenV_set (m : Nat) (l : List Int) (x : Nat) (hx : x < m) : (seenV m l).set x (.bool true) = seenV m (l ++ [(x : Int)]) := by
  apply List.ext_getElem?
  intro j
  by_cases hj : j < m
  · rw [seenV_get m _ j hj]
    by_cases e : x = j
    · subst e
      rw [List.getElem?_set_self (by rw [seenV_len]; exact hx)]
      simp
    · rw [List.getElem?_set_ne e, seenV_get m _ j hj]
      congr 2
      rw [decide_eq_decide, List.mem_append]
      constructor
      · exact .inl
      · rintro (h | h)
        · exact h
        · simp at h; omega
  · rw [List.getElem?_eq_none (by rw [List.length_set, seenV_len]; omega), List.getElem?_eq_none (by rw [seenV_len]; omega)]
theorem Try.infoBo : (Try.prog.info? 4).map (fun i => (i.zero, i.size, i.bytes)) = some (some (.bool false), 1, 1) := by kernel_rfl
theorem make_seen (m : Nat) (hm : m ≤ 1000000) (W : World) : (Instr.makeSlice 67 (.int .i64 (m : Int)) (.int .i64 (m : Int))).run Try.prog W = .ok (.slice (some ⟨W.heap.size, 0, none⟩) m m) (W.alloc (.cells (seenV m []).toArray 4)) := by
  obtain ⟨i0, hi, hz0, hz1, hz2⟩ := info_parts Try.infoBo
  have := run_make (P := Try.prog) W 67 4 i0 _ Try.underlying67 hi hz0 .i64 .i64 (m : Int) (m : Int) (by omega) (Int.le_refl _) (by rw [hz2]; omega) (by omega)
  rw [hz1, Int.toNat_natCast, Nat.mul_one] at this
  have e : madeCells (Value.bool false).cells m = (seenV m []).toArray := by
    apply Array.toList_inj.1
    rw [show (Value.bool false).cells = #[Value.bool false] from rfl, toList_madeCells_one]
    apply List.ext_getElem?
    intro j
    by_cases hj : j < m
    · rw [List.toList_toArray, seenV_get m _ j hj, List.getElem?_replicate, if_pos hj]; simp
    · rw [List.toList_toArray, List.getElem?_eq_none (by simp; omega), List.getElem?_eq_none (by rw [seenV_len]; omega)]
  rw [e] at this
  exact this
def inR (m : Nat) (k : Int) : Prop := 0 ≤ k ∧ k < (m : Int)
instance (m : Nat) (k : Int) : Decidable (inR m k) := inferInstanceAs (Decidable (_ ∧ _))
/-- may a crash leave these? -/
def May (m : Nat) (keep : List Int) (torn part : Int) : Prop :=
  (∀ k ∈ keep, inR m k) ∧ keep.Nodup ∧ (torn = -1 ∨ (inR m torn ∧ torn ∉ keep)) ∧ 0 ≤ part ∧ part ≤ 512
instance (m : Nat) (keep : List Int) (torn part : Int) : Decidable (May m keep torn part) := inferInstanceAs (Decidable (_ ∧ _))
def mayB (m : Nat) (keep : List Int) (torn part : Int) : Bool := decide (May m keep torn part)
theorem may_bad {m k : Nat} {keep : List Int} {torn part : Int} (hk : k < keep.length) (h : ¬ inR m (keep.getD k 0) ∨ keep.getD k 0 ∈ keep.take k) : mayB m keep torn part = false := by
  refine decide_eq_false fun hm => ?_
  have hmem : keep.getD k 0 ∈ keep := by rw [List.getD_eq_getElem?_getD, List.getElem?_eq_getElem hk]; exact List.getElem_mem hk
  rcases h with h | h
  · exact h (hm.1 _ hmem)
  · have hn := hm.2.1
    rw [← List.take_append_drop k keep, List.nodup_append] at hn
    refine hn.2.2 _ h _ ?_ rfl
    rw [List.drop_eq_getElem_cons hk, List.getD_eq_getElem?_getD, List.getElem?_eq_getElem hk]
    exact List.mem_cons_self ..
/-- the first k are in range and each once -/
def Fine (m : Nat) (l : List Int) : Prop := (∀ k ∈ l, inR m k) ∧ l.Nodup
theorem Fine.snoc {m k : Nat} {keep : List Int} (h : Fine m (keep.take k)) (hk : k < keep.length) (h1 : inR m (keep.getD k 0)) (h2 : keep.getD k 0 ∉ keep.take k) : Fine m (keep.take (k + 1)) := by
  have e : keep.take (k + 1) = keep.take k ++ [keep.getD k 0] := by
    rw [List.take_succ_eq_append_getElem hk, List.getD_eq_getElem?_getD, List.getElem?_eq_getElem hk]; rfl
  rw [e]
  refine ⟨fun x hx => ?_, ?_⟩
  · rcases List.mem_append.1 hx with h' | h'
    · exact h.1 x h'
    · simp at h'; subst h'; exact h1
  · rw [List.nodup_append]
    exact ⟨h.2, by simp, fun a ha b hb => by simp at hb; subst hb; intro e; rw [← List.getD_eq_getElem?_getD] at e; rw [← e] at h2; exact h2 ha⟩
theorem take_snocI (l : List Int) (k : Nat) (hk : k < l.length) : l.take (k + 1) = l.take k ++ [l.getD k 0] := by
  rw [List.take_succ_eq_append_getElem hk, List.getD_eq_getElem?_getD, List.getElem?_eq_getElem hk]; rfl
set_option maxRecDepth 100000 in
set_option maxHeartbeats 8000000 in
theorem may_any {gd gn gs : Nat} {pv : Value} {B n : Nat} {D : DiskD} (a : Option Addr) (kn kcap : Nat) (keep : List Int) (torn part : Int) (w : World) (h : DiskAt w gd gn gs pv B n D) (hr : Reads w a kn kcap (iV keep)) :
    Calls Try.prog 19 #[.pointer (some ⟨gd, 0, none⟩), .slice a kn kcap, .int .i64 torn, .int .i64 part] w fun e w' => e = .returned (.bool (mayB D.pend.length keep torn part)) ∧ Below w.heap.size w w' := by
  have hpl := h.plen'
  obtain ⟨pa, pcap, rfl, hpr⟩ := h.pendAt
  have c2 : w.cell? ⟨gd, 2, none⟩ = some (.slice pa D.pend.length pcap) := h.self.cell 2 _ rfl
  have hkn : kn ≤ 9223372036854775807 := by have := hr.fits; have := hr.room; omega
  have HKL : Hid (keep.length = kn) := Lib.hid (by rw [← hr.len, iV_len])
  have HR := Lib.hid hr
  clear h hpr hr
  generalize D.pend.length = m at *
  have hmk := make_seen m (by omega)
  have HB0 := Lib.hid ((Below.refl w.heap.size w).alloc (Nat.le_refl _) (.cells (seenV m []).toArray 4))
  have HW0 := Lib.hid (Row.new w (seenV m []).toArray 4)
  go_enter Try.func19, Try.ntmps19
  go_wp2
  clear hmk c2
  go_loopw [20] (fun i wr => ∃ k : Nat, k ≤ kn ∧ i = .int .i64 k ∧ Fine m (keep.take k) ∧ Row wr w.heap.size (seenV m (keep.take k)).toArray 4 ∧ Below w.heap.size w wr) (fun i _ => kn - (intOf i).toNat)
  case atStart => exact ⟨0, Nat.zero_le _, rfl, ⟨fun x hx => by simp at hx, by simp⟩, by rw [List.take_zero]; exact HW0.out, HB0.out⟩
  case round =>
    obtain ⟨k, hk, rfl, hf, hw, hb⟩ := hrel
    have HF := Lib.hid hf
    have HW := Lib.hid hw
    have HB := Lib.hid hb
    clear hf hw hb HB0 HW0
    by_cases hlt : k < kn
    · have hlk : k < keep.length := by rw [HKL.out]; exact hlt
      obtain ⟨b, off, rfl, ck⟩ := (HR.out.below HB.out).at_ k _ (iV_get keep k hlk)
      have HBAD := Lib.hid (may_bad (m := m) (torn := torn) (part := part) hlk)
      have HNX := Lib.hid (HF.out.snoc hlk)
      have HTK := Lib.hid (take_snocI keep k hlk)
      generalize keep.getD k 0 = x at *
      clear hlk
      by_cases h1 : x < 0
      · go_wp2
        go_ret
        exact ⟨ret_bool (HBAD.out (.inl (fun h => absurd h.1 (by omega)))).symm, HB.out⟩
      by_cases h2 : (m : Int) ≤ x
      · go_wp2
        go_ret
        exact ⟨ret_bool (HBAD.out (.inl (fun h => absurd h.2 (by omega)))).symm, HB.out⟩
      obtain ⟨X, rfl⟩ := Int.eq_ofNat_of_zero_le (show 0 ≤ x by omega)
      have hX : X < m := by omega
      have cs := HW.out.cell X _ (by rw [List.getElem?_toArray]; exact seenV_get m (keep.take k) X hX)
      have fs := HW.out.free X
      by_cases h3 : (X : Int) ∈ keep.take k
      · rw [decide_eq_true h3] at cs
        have H3 := Lib.hid h3
        clear h3
        go_wp2
        go_ret
        exact ⟨ret_bool (HBAD.out (.inr H3.out)).symm, HB.out⟩
      · rw [decide_eq_false h3] at cs
        have H3 := Lib.hid h3
        clear h3
        go_wp2
        go_roundw
        case rel =>

          refine ⟨k + 1, by omega, by go_num, HNX.out ⟨by omega, by omega⟩ H3.out, ?_, HB.out.setCell (Nat.le_refl _) _⟩
          have := HW.out.set X (.bool true)
          rw [List.setIfInBounds_toArray, seenV_set m _ X hX, ← HTK.out] at this
          exact this
        case measure => simp [intOf]; omega
    · have ek : keep.take k = keep := List.take_of_length_le (by rw [HKL.out]; omega)
      rw [ek] at HF HW
      clear ek HR
      have FINY : Hid ((torn = -1 ∨ (inR m torn ∧ torn ∉ keep)) → 0 ≤ part → part ≤ 512 → true = mayB m keep torn part) := Lib.hid (fun h p1 p2 => (decide_eq_true (show May m keep torn part from ⟨HF.out.1, HF.out.2, h, p1, p2⟩)).symm)
      have FINP : Hid (¬ (0 ≤ part ∧ part ≤ 512) → false = mayB m keep torn part) := Lib.hid (fun h => (decide_eq_false (fun hm : May m keep torn part => h ⟨hm.2.2.2.1, hm.2.2.2.2⟩)).symm)
      have FINN : Hid (¬ torn = -1 → (inR m torn → torn ∈ keep) → false = mayB m keep torn part) := Lib.hid (fun h0 h => (decide_eq_false (fun hm : May m keep torn part => hm.2.2.1.elim h0 (fun h1 => h1.2 (h h1.1)))).symm)
      by_cases h0 : torn = -1
      · have e0 : (torn != -1) = false := by rw [h0]; rfl
        have H0 := Lib.hid h0
        clear h0
        by_cases p1 : 0 ≤ part
        · by_cases p2 : part ≤ 512
          · go_wp2
            go_ret
            exact ⟨ret_bool (FINY.out (.inl H0.out) p1 p2), HB.out⟩
          · go_wp2
            go_ret
            exact ⟨ret_bool (FINP.out (by omega)), HB.out⟩
        · go_wp2
          go_ret
          exact ⟨ret_bool (FINP.out (by omega)), HB.out⟩
      have e0 : (torn != -1) = true := by simpa using h0
      by_cases h1 : torn < 0
      · go_wp2
        go_ret
        exact ⟨ret_bool (FINN.out h0 (fun h => absurd h.1 (by omega))), HB.out⟩
      by_cases h2 : (m : Int) ≤ torn
      · go_wp2
        go_ret
        exact ⟨ret_bool (FINN.out h0 (fun h => absurd h.2 (by omega))), HB.out⟩
      obtain ⟨X, rfl⟩ := Int.eq_ofNat_of_zero_le (show 0 ≤ torn by omega)
      have hX : X < m := by omega
      have hin : inR m (X : Int) := ⟨by omega, by omega⟩
      have HIN := Lib.hid hin
      clear hin
      have cs := HW.out.cell X _ (by rw [List.getElem?_toArray]; exact seenV_get m keep X hX)
      by_cases h3 : (X : Int) ∈ keep
      · rw [decide_eq_true h3] at cs
        have H3 := Lib.hid h3
        clear h3
        go_wp2
        go_ret
        exact ⟨ret_bool (FINN.out h0 (fun _ => H3.out)), HB.out⟩
      · rw [decide_eq_false h3] at cs
        have H3 := Lib.hid h3
        clear h3
        by_cases p1 : 0 ≤ part
        · by_cases p2 : part ≤ 512
          · go_wp2
            go_ret
            exact ⟨ret_bool (FINY.out (.inr ⟨HIN.out, H3.out⟩) p1 p2), HB.out⟩
          · go_wp2
            go_ret
            exact ⟨ret_bool (FINP.out (by omega)), HB.out⟩
        · go_wp2
          go_ret
          exact ⟨ret_bool (FINP.out (by omega)), HB.out⟩
end Go.Proofs.Ytdoaalbgmdpamaa
