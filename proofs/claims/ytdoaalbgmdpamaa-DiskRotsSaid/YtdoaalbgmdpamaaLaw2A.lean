/-
  The laws' own sector and ints, and what must come whatever the input is (layer 2), at this seat's numbers.
-/
import Derived.Test.YtdoaalbgmdpamaaStrB
import Derived.Test.YtdoaalbgmdpamaaDiskF
import Derived.Test.YtdoaalbgmdpamaaDiskB
import Derived.Deep.RegionWith
import Derived.Deep.RegionHeld3
import Derived.BigRegion
set_option linter.unusedVariables false
set_option linter.unusedSimpArgs false
namespace Go.Proofs.Ytdoaalbgmdpamaa
open Go Go.RowKit

/-- bytes, made as long as a sector -/
def secL (s : ByteArray) : List Int := bytesOf s ++ zeros (512 - s.size)
def secS (s : ByteArray) : ByteArray := strB (secL s)
theorem secL_bytes (s : ByteArray) : IsBytes (secL s) := by
  intro c hc
  rcases List.mem_append.1 hc with h | h
  · exact bytesOf_bytes s c h
  · exact zeros_isBytes _ c h
theorem secL_len (s : ByteArray) (h : s.size ≤ 512) : (secL s).length = 512 := by
  unfold secL
  rw [List.length_append, bytesOf_len, zeros_len]; omega
theorem secS_size (s : ByteArray) (h : s.size ≤ 512) : (secS s).size = 512 := by unfold secS; rw [strB_size, secL_len s h]
theorem secS_bytes (s : ByteArray) : bytesOf (secS s) = secL s := bytesOf_strB (secL_bytes s)
theorem sector_long (s : ByteArray) (w : World) (h : 512 < s.size) :
    Calls Try.prog 8 #[.string s] w fun e w' => e = .returned (.string s) ∧ w = w' := by
  go_enter Try.func8, Try.ntmps8
  go_wp2
  go_ret
  exact ⟨rfl, rfl⟩
set_option maxHeartbeats 1000000 in
theorem sector_any (s : ByteArray) (w : World) (h : s.size ≤ 512) :
    Calls Try.prog 8 #[.string s] w fun e w' => e = .returned (.string (secS s)) ∧ Below w.heap.size w w' := by
  obtain ⟨k, hk⟩ : ∃ k, 512 - s.size = k := ⟨_, rfl⟩
  have hmk := make_bytes k (by omega)
  have HZ := Lib.hid (fun W : World => zeros_reads k (by omega) W)
  have ek : (512 : Int) - (s.size : Int) = (k : Int) := by omega
  have kc := fun W : World => conv_str (zeros_reads k (by omega) W)
  have HS : Hid (s ++ strB (zeros k) = secS s) := Lib.hid (by
    unfold secS secL
    rw [← strB_append, strB_bytesOf, hk])
  have hks := strB_size (List.replicate k 0)
  clear hk
  go_enter Try.func8, Try.ntmps8
  go_wp2
  go_ret
  exact ⟨by rw [← HS.out]; rfl, (Below.refl _ _).alloc (Nat.le_refl _) _⟩
theorem take_eqI {xs ys : List Int} {k : Nat} (h1 : k < xs.length) (h2 : k < ys.length) (h : xs.take k = ys.take k) (hk : xs.getD k 0 = ys.getD k 0) : xs.take (k + 1) = ys.take (k + 1) := by
  rw [List.getD_eq_getElem?_getD, List.getD_eq_getElem?_getD, List.getElem?_eq_getElem h1, List.getElem?_eq_getElem h2] at hk
  have hk' : xs[k] = ys[k] := by simpa using hk
  rw [List.take_succ_eq_append_getElem h1, List.take_succ_eq_append_getElem h2, h, hk']
theorem below_kept {S : Nat → Prop} {w w1 w2 : World} (h : Below w.heap.size w w1) (hk : Kept S w1 w2) (hs : ∀ k, k < w1.heap.size → S k → w.heap.size ≤ k) : Below w.heap.size w w2 :=
  ⟨hk.os.trans h.os, hk.tape.trans h.tape, hk.output.trans h.output, Nat.le_trans h.size hk.size, fun i hi => (hk.block i (Nat.lt_of_lt_of_le hi h.size) (fun hS => by have := hs i (Nat.lt_of_lt_of_le hi h.size) hS; omega)).trans (h.block i hi)⟩
theorem Reads.one (W : World) (x : Int) (t : TypeId) : Reads (W.alloc (.cells #[.int .i64 x] t)) (some ⟨W.heap.size, 0, none⟩) 1 1 (iV [x]) :=
  ⟨rfl, Nat.le_refl _, by decide, fun e => (by cases e), fun _ => ⟨W.heap.size, 0, rfl, fun j v hv => by
    match j, hv with
    | 0, hv => simp [iV] at hv; subst hv; exact World.cell?_alloc_at _ _ _ _ rfl⟩⟩
theorem Reads.one' (W : World) (x : Int) (t : TypeId) (g : Nat) (hg : g = W.heap.size) : Reads (W.alloc (.cells #[.int .i64 x] t)) (some ⟨g, 0, none⟩) 1 1 (iV [x]) := by subst hg; exact Reads.one W x t
theorem nilReads (w : World) : Reads w none 0 0 (iV []) := ⟨rfl, Nat.le_refl _, by decide, fun _ => ⟨rfl, rfl⟩, fun h => absurd h (by decide)⟩
def sA : ByteArray := ⟨#[97]⟩
def sB : ByteArray := ⟨#[98]⟩
def sE : ByteArray := ⟨#[]⟩
def sureD (A Bb : List Int) : DiskD := ((((disk0 2).put 0 A).flush).put 1 Bb).crash [] (-1) 0
theorem sureD_now (A Bb : List Int) : (sureD A Bb).now = [A, zeros 512] := rfl
theorem sureD_writes (A Bb : List Int) : (sureD A Bb).writes = 2 := by
  show wrap64 (wrap64 (0 + 1) + 1) = 2
  rw [show wrap64 (0 + 1) = 1 by unfold wrap64; omega]
  unfold wrap64
  omega
theorem zeros_secE : zeros 512 = secL sE := by unfold secL; rfl
set_option maxRecDepth 100000 in
set_option maxHeartbeats 8000000 in
theorem sure_any (w : World) :
    Calls Try.prog 5 #[] w fun e w' => e = .returned (.bool true) ∧ Below w.heap.size w w' := by
  have kA := fun W : World => conv_bytes_at (secS sA) 512 (secS_size sA (by decide)) W
  have kB := fun W : World => conv_bytes_at (secS sB) 512 (secS_size sB (by decide)) W
  go_enter Try.func5, Try.ntmps5
  go_wp2_with fail
  refine Calls.mono (new_ok 2 _ (by decide) (by decide)) ?_
  rintro e w1 ⟨gd, gn, gs, rfl, hd, hB⟩
  have H1 := Lib.hid hd
  have B1 := Lib.hid hB
  clear hd hB
  go_wp2_with fail
  refine Calls.mono (sector_any sA _ (by decide)) ?_
  rintro e w2 ⟨rfl, hB⟩
  have H2 := Lib.hid (H1.out.below hB)
  have B2 := Lib.hid (bstep B1.out hB)
  clear H1 B1
  clear hB
  have hB := bytesW_below w2 (secS sA)
  have R3 := Lib.hid (bytesW_reads w2 (secS sA) 512 (secS_size sA (by decide)) (by decide))
  rw [secS_bytes] at R3
  have A3 := Lib.hid (bytesW_apart w2 (secS sA) (DS gd gn gs (.slice none 0 0)) (fun k hk => (H2.out.old k hk).2))
  have H3 := Lib.hid (H2.out.below hB)
  have B3 := Lib.hid (bstep B2.out hB)
  clear H2 B2
  clear hB
  go_wp2_with fail
  refine Calls.mono (write_ok 0 (some ⟨w2.heap.size, 0, none⟩) (capB w2 (secS sA)) (secL sA) _ H3.out (by decide) R3.out A3.out (by decide)) ?_
  rintro e w4 ⟨pv4, rfl, hd, hk, hf⟩
  clear R3 A3
  have H4 := Lib.hid hd
  have B4 := Lib.hid (below_kept B3.out hk (fun k _ hk => (H3.out.old k hk).1))
  clear hd hk H3 B3
  clear hf
  go_wp2_with fail
  refine Calls.mono (flush_ok _ H4.out) ?_
  rintro e w5 ⟨rfl, hd, hk⟩
  have H5 := Lib.hid hd
  have B5 := Lib.hid (below_kept B4.out hk (fun k _ hk => by rcases hk with rfl | rfl; exact H4.out.b1; exact H4.out.b3))
  clear hd hk H4 B4
  go_wp2_with fail
  refine Calls.mono (sector_any sB _ (by decide)) ?_
  rintro e w6 ⟨rfl, hB⟩
  have H6 := Lib.hid (H5.out.below hB)
  have B6 := Lib.hid (bstep B5.out hB)
  clear H5 B5
  clear hB
  have hB := bytesW_below w6 (secS sB)
  have R7 := Lib.hid (bytesW_reads w6 (secS sB) 512 (secS_size sB (by decide)) (by decide))
  rw [secS_bytes] at R7
  have A7 := Lib.hid (bytesW_apart w6 (secS sB) (DS gd gn gs (.slice none 0 0)) (fun k hk => (H6.out.old k hk).2))
  have H7 := Lib.hid (H6.out.below hB)
  have B7 := Lib.hid (bstep B6.out hB)
  clear H6 B6
  clear hB
  go_wp2_with fail
  refine Calls.mono (write_ok 1 (some ⟨w6.heap.size, 0, none⟩) (capB w6 (secS sB)) (secL sB) _ H7.out (by decide) R7.out A7.out (by decide)) ?_
  rintro e w8 ⟨pv8, rfl, hd, hk, hf⟩
  clear R7 A7
  have H8 := Lib.hid hd
  have B8 := Lib.hid (below_kept B7.out hk (fun k _ hk => (H7.out.old k hk).1))
  clear hd hk H7 B7
  clear hf
  go_wp2_with fail
  refine Calls.mono (crash_ok none 0 0 [] (-1) 0 _ H8.out (nilReads _) (fun ad e => (by cases e)) (by decide)) ?_
  rintro e w9 ⟨rfl, hd, hk⟩
  have H9 := Lib.hid hd
  have B9 := Lib.hid (below_kept B8.out hk (fun k _ hk => by rcases hk with rfl | rfl | rfl; exact H8.out.b1; exact H8.out.b2; exact H8.out.b3))
  clear hd hk H8 B8
  go_wp2_with fail
  refine Calls.mono (read_ok 0 _ H9.out (by decide)) ?_
  rintro e w10 ⟨v, rfl, ho, hB⟩
  obtain ⟨a10, c10, rfl, hr⟩ := ho.reads' (H9.out.snow.get (by decide)).2 (H9.out.snow.get (by decide)).1 (by decide)
  have H10 := Lib.hid (H9.out.below hB)
  have B10 := Lib.hid (bstep B9.out hB)
  clear H9 B9
  have RA := Lib.hid hr
  clear hB ho hr
  go_wp2_with fail
  refine Calls.mono (read_ok 1 _ H10.out (by decide)) ?_
  rintro e w11 ⟨v, rfl, ho, hB⟩
  obtain ⟨a11, c11, rfl, hr⟩ := ho.reads' (H10.out.snow.get (by decide)).2 (H10.out.snow.get (by decide)).1 (by decide)
  have H11 := Lib.hid (H10.out.below hB)
  have B11 := Lib.hid (bstep B10.out hB)
  have RA_12 := Lib.hid (ReadsB.below RA.out hB)
  clear RA
  clear H10 B10
  have RB := Lib.hid hr
  clear hB ho hr
  have HW : Hid ((((((disk0 2).put 0 (secL sA)).flush).put 1 (secL sB)).crash [] (-1) 0).writes = 2) := Lib.hid (sureD_writes (secL sA) (secL sB))
  have RA' : Hid (ReadsB w11 a10 512 c10 (secL sA)) := RA_12
  have RB' : Hid (ReadsB w11 a11 512 c11 (secL sE)) := Lib.hid (by rw [← zeros_secE]; exact RB.out)
  clear RA_12 RB
  have HB : Hid (Below w11.heap.size w11 w11.drew) := Lib.hid ((Below.refl _ _).drew)
  have SH : Hid (∀ W' : World, Below w11.heap.size w11 W' → (convert 34 9 (.slice a10 512 c10)).run Try.prog W' = .ok (.string (secS sA)) W' ∧ (convert 34 9 (.slice a11 512 c11)).run Try.prog W' = .ok (.string (secS sE)) W') := Lib.hid (fun W' hb => ⟨conv_str (ReadsB.below RA'.out hb), conv_str (ReadsB.below RB'.out hb)⟩)
  go_wp2_with fail
  go_region_held3 (fun W' => (convert 34 9 (.slice a10 512 c10)).run Try.prog W' = .ok (.string (secS sA)) W' ∧ (convert 34 9 (.slice a11 512 c11)).run Try.prog W' = .ok (.string (secS sE)) W') (first | assumption | exact SH.out _ HB.out) (first | (go_at_call 8; with_reducible refine Calls.mono (sector_any ⟨#[97]⟩ _ (by decide)) ?_; rintro e w91 ⟨rfl, hB⟩; rw [show secS ⟨#[97]⟩ = secS sA from rfl]; have n0 := Lib.hid (bstep HB.out hB); clear HB hB; have HB := n0; clear n0) | (go_at_call 8; with_reducible refine Calls.mono (sector_any ⟨#[]⟩ _ (by decide)) ?_; rintro e w92 ⟨rfl, hB⟩; rw [show secS ⟨#[]⟩ = secS sE from rfl]; have n0 := Lib.hid (bstep HB.out hB); clear HB hB; have HB := n0; clear n0) | (go_at_call 14; with_reducible refine Calls.mono (writes_any _ (H11.out.below HB.out)) ?_; rintro e w93 ⟨rfl, rfl⟩; rw [HW.out]))
  all_goals
    go_wp2
    go_ret
    exact ⟨rfl, bstep B11.out HB.out⟩
end Go.Proofs.Ytdoaalbgmdpamaa
