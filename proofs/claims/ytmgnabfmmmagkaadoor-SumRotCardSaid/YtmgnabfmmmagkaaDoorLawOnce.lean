/-
  The walk of the law SumOnce, at this seat's numbers.
-/
import Derived.Test.YtmgnabfmmmagkaaDoorSumC
import Derived.StillTailTactics
import Derived.Deep.RegionLaw
import Derived.BigRegion
set_option linter.unusedVariables false
set_option linter.unusedSimpArgs false
namespace Go.Proofs.YtmgnabfmmmagkaaDoor
open Go Go.RowKit Crc

theorem markL_take {xs : List Int} {m : Nat} (h : xs.length = m + 4) : (markL xs).take m = xs.take m := by
  unfold markL
  rw [show xs.length - 4 = m by omega, List.take_append_of_le_length (by simp; omega), List.take_take, Nat.min_self]
/-- bytes as a string -/
def strB (xs : List Int) : ByteArray := strOfNums xs
theorem conv_str {w : World} {a : Option Addr} {n cap : Nat} {xs : List Int} (h : ReadsB w a n cap xs) : (convert 22 9 (.slice a n cap)).run Tryd.prog w = .ok (.string (strB xs)) w := by
  cases a with
  | none =>
    obtain ⟨rfl, rfl⟩ := h.nil rfl
    obtain rfl : xs = [] := List.eq_nil_of_length_eq_zero h.len
    exact run_convert_bytes_nil w 22 5 Tryd.underlying22 Tryd.underlying5 0 0 9 Tryd.underlying9
  | some ad =>
    rcases Nat.eq_zero_or_pos n with h0 | h0
    · subst h0
      obtain rfl : xs = [] := List.eq_nil_of_length_eq_zero h.len
      exact run_convert_bytes_string w 22 9 5 (some ad) 0 cap Tryd.underlying22 Tryd.underlying5 Tryd.underlying9
    · obtain ⟨b, off, e, hc⟩ := h.addr h0
      cases e
      exact run_convert_bytes_arg w 22 5 Tryd.underlying22 Tryd.underlying5 b off n cap xs h.len hc 9 Tryd.underlying9
theorem OwnB.reads' {w : World} {base : Nat} {v : Value} {xs : List Int} {n : Nat} (h : OwnB w base v xs) (hb : IsBytes xs) (hl : xs.length = n) (hn : n ≤ 140737488351232) : ∃ a cap, v = .slice a n cap ∧ ReadsB w a n cap xs := by
  subst hl
  exact h.reads hb hn
set_option maxRecDepth 100000 in
set_option maxHeartbeats 4000000 in
theorem once_any (a : Option Addr) (n cap : Nat) (at_ by_ : Int) (xs : List Int) (w : World) (ha : ReadsB w a n cap xs) (hat : (Lit.int .i64 at_).wf = true) (hby : (Lit.int .u8 by_).wf = true) (hg : Fours w) :
    Calls Tryd.prog 5 #[.slice a n cap, .int .i64 at_, .int .u8 by_] w fun e w' => e = .returned (.bool true) ∧ Below w.heap.size w w' := by
  have hn := ha.bound
  have HA := Lib.hid ha
  have HG := Lib.hid hg
  clear ha hg
  have HW1 := Lib.hid hat
  have HW2 := Lib.hid hby
  clear hat hby
  by_cases h1 : n < 5
  · go_enter Tryd.func5, Tryd.ntmps5
    go_wp2_with (go_at_call 10; refine Calls.mono (sure_any _ ?_) ?_; exact HG.out; rintro e w9 ⟨rfl, hB⟩)
    go_ret
    exact ⟨rfl, hB⟩
  by_cases h2 : 3000 < n
  · go_enter Tryd.func5, Tryd.ntmps5
    go_wp2_with (go_at_call 10; refine Calls.mono (sure_any _ ?_) ?_; exact HG.out; rintro e w9 ⟨rfl, hB⟩)
    go_ret
    exact ⟨rfl, hB⟩
  obtain ⟨m, rfl⟩ : ∃ m, n = m + 4 := ⟨n - 4, by omega⟩
  obtain ⟨k, ek, hk'⟩ := place_u64 at_ m (by omega) (by omega)
  have hk : k < m + 4 := by omega
  have HL : Hid ((markL xs).length = m + 4) := Lib.hid (by rw [markL_length (by rw [HA.out.len]; omega), HA.out.len])
  have HY : Hid (IsBytes (markL xs)) := Lib.hid (markL_bytes HA.out.byte)
  have HM : Hid (markL (markL xs) = markL xs) := Lib.hid (markL_twice (by rw [HA.out.len]; omega))
  go_enter Tryd.func5, Tryd.ntmps5
  go_wp2_with (first | (go_at_call 11; refine Calls.mono (mark_any _ _ _ xs _ ?_ ?_ ?_) ?_; with_reducible exact HA.out; exact HG.out; omega; rintro e w1 ⟨v1, rfl, ho, hB⟩; obtain ⟨a1, c1, rfl, hr1⟩ := ho.reads' HY.out HL.out hn; have HR1 := Lib.hid hr1; have HB1 := Lib.hid hB; clear ho hr1 hB) | (go_at_call 11; refine Calls.mono (mark_any _ _ _ (markL xs) _ ?_ ?_ ?_) ?_; with_reducible exact HR1.out; exact (HG.out).below HB1.out; omega; rintro e w2 ⟨v2, rfl, ho, hB⟩; rw [HM.out] at ho; obtain ⟨a2, c2, rfl, hr2⟩ := ho.reads' HY.out HL.out hn; have HR2 := Lib.hid hr2; have HB2 := Lib.hid (bstep HB1.out hB); have HR1' := Lib.hid (ReadsB.below HR1.out hB); clear ho hr2 hB))
  have q1 : ∀ k, (convert 22 9 (.slice a1 (m + 4) c1)).run Tryd.prog (w2.drewN k) = .ok (.string (strB (markL xs))) (w2.drewN k) := fun k => conv_str (ReadsB.below HR1'.out (below_drewN (Below.refl _ _) k))
  have q2 : ∀ k, (convert 22 9 (.slice a2 (m + 4) c2)).run Tryd.prog (w2.drewN k) = .ok (.string (strB (markL xs))) (w2.drewN k) := fun k => conv_str (ReadsB.below HR2.out (below_drewN (Below.refl _ _) k))
  have q3 : ∀ k, (convert 22 9 (.slice a1 m c1)).run Tryd.prog (w2.drewN k) = .ok (.string (strB (xs.take m))) (w2.drewN k) := fun k => by
    have := conv_str ((ReadsB.below HR1'.out (below_drewN (Below.refl _ _) k)).take (show m ≤ m + 4 by omega))
    rw [markL_take (by rw [HA.out.len])] at this
    exact this
  have q4 : ∀ k, (convert 22 9 (.slice a m cap)).run Tryd.prog (w2.drewN k) = .ok (.string (strB (xs.take m))) (w2.drewN k) := fun k => conv_str ((ReadsB.below HA.out (below_drewN HB2.out k)).take (show m ≤ m + 4 by omega))
  have q10 := q1 0
  have q20 := q2 0
  have q30 := q3 0
  have q40 := q4 0
  rw [World.drewN_zero] at q10 q20 q30 q40
  have hby : Byte by_ := by
    have hb : 0 ≤ by_ ∧ by_ ≤ 255 := by simpa [Lit.wf, IntKind.min, IntKind.max, IntKind.signed, IntKind.bits] using HW2.out
    exact ⟨hb.1, by omega⟩
  obtain ⟨Z, hZ⟩ : ∃ Z, Z = (markL xs).set k (xorI ((markL xs).getD k 0) by_) := ⟨_, rfl⟩
  have HT : (goodB Z == (by_ == 0)) = true := by
    rw [hZ, good_turned HA.out.byte (by rw [HA.out.len]; omega) k (by rw [HA.out.len]; omega) by_ hby]; simp
  have HZ : Hid (∀ (W : World) (g c4 : Nat) (B : Nat), OwnB W B (.slice (some ⟨g, 0, none⟩) (m + 4) c4) (markL xs) → m + 4 ≤ c4 → c4 ≤ 9223372036854775807 → ReadsB (W.setCell ⟨g, k, none⟩ (.int .u8 (bits .xor .u8 ((markL xs)[k]?.getD 0) by_))) (some ⟨g, 0, none⟩) (m + 4) c4 Z) := Lib.hid (fun W g c4 B ho h1 h2 => by
    rw [hZ, xor8, ← List.getD_eq_getElem?_getD]
    exact (ho.set HL.out k _).at_ (set_bytes _ _ _ HY.out (xorI_byte _ _)) (by rw [List.length_set]; exact HL.out) hn h1 h2)
  clear hZ
  have f1 := HR1'.out.fits
  have f2 := HR2.out.fits
  have f3 := HA.out.fits
  go_quiet (fail)
  clear q1 q2 q3 q4 q10 q20 q30 q40
  obtain ⟨W3, hW3⟩ : ∃ W3, W3 = w2.drewN nq := ⟨_, rfl⟩
  have HB3 : Hid (Below w.heap.size w W3) := Lib.hid (by rw [hW3]; exact below_drewN HB2.out _)
  have HR3 : Hid (ReadsB W3 a1 (m + 4) c1 (markL xs)) := Lib.hid (by rw [hW3]; exact ReadsB.below HR1'.out (below_drewN (Below.refl _ _) _))
  rw [← hW3]
  clear hW3
  go_wp2_with (first | (at_builtin; refine wpList_append_bytes rfl _ _ rfl w.heap.size (.slice none 0 0) [] rfl ?_ a1 (m + 4) c1 (markL xs) rfl ?_ ?_ ?_ ?_; exact own_nil _ _; with_reducible exact HR3.out; (simp; omega); exact HB3.out.size; intro v4 w4 ho hg; have HB4 := Lib.hid (HB3.out.grown hg HB3.out.size (fun k hk => own_base (own_nil W3 _) k hk)); rw [List.nil_append] at ho; obtain ⟨g, c4, rfl, hg1, hg2, hg3, hg4, ho4⟩ := OwnB.opened (n := m + 4) ho HL.out (Nat.succ_pos _); have HO4 := Lib.hid ho4; have cell4 := ho4.cell HL.out k hk; have free4 := ho4.free HL.out k; clear ho hg ho4) | (go_at_call 12; refine Calls.mono (good_any _ _ _ Z _ ?_ ?_) ?_; exact HZ.out _ _ _ _ HO4.out hg2 hg3; exact (HG.out).below (HB4.out.setCell hg1 _); rintro e w6 ⟨rfl, hB⟩; have HB6 := Lib.hid (bstep (HB4.out.setCell hg1 _) hB); clear hB) | (go_at_call 10; refine Calls.mono (sure_any _ ?_) ?_; exact (HG.out).below HB6.out; rintro e w9 ⟨rfl, hB⟩; have HB9 := Lib.hid (bstep HB6.out hB); clear hB))
  go_ret
  exact ⟨rfl, HB9.out⟩
end Go.Proofs.YtmgnabfmmmagkaaDoor
