/-
  The walk of the law DiskRots, at this seat's numbers.
-/
import Derived.Test.YtdoaalbgmdpamaaLaw2A
set_option linter.unusedVariables false
set_option linter.unusedSimpArgs false
namespace Go.Proofs.Ytdoaalbgmdpamaa
open Go Go.RowKit

theorem ReadsB.congr {w : World} {a : Option Addr} {n cap : Nat} {xs ys : List Int} (h : ReadsB w a n cap xs) (e : xs = ys) : ReadsB w a n cap ys := by rw [← e]; exact h
theorem apartNone (S : Nat → Prop) : Apart S none := fun ad e => by cases e
theorem mayNil (m : Nat) : mayB m [] (-1) 0 = true := decide_eq_true ⟨fun x hx => (by cases hx), List.nodup_nil, .inl rfl, by decide, by decide⟩
theorem sec_at (s : ByteArray) (k : Nat) (h : k < (secS s).size) : (((secS s)[k]'h).toNat : Int) = (secL s).getD k 0 := by
  have e := secS_bytes s
  have h2 : k < (secL s).length := by rw [← e, bytesOf_len]; exact h
  have : (bytesOf (secS s))[k]? = (secL s)[k]? := by rw [e]
  rw [List.getD_eq_getElem?_getD, ← this]
  unfold bytesOf
  have h3 : k < (secS s).data.size := h
  rw [List.getElem?_map, Array.getElem?_toList, Array.getElem?_eq_getElem h3]
  rfl
theorem xorI_twice {y c : Int} (h : Byte y) : xorI (xorI y c) c = y := by
  have h0 := h.1; have h1 := h.2
  obtain ⟨n, rfl⟩ := Int.eq_ofNat_of_zero_le h0
  unfold xorI
  rw [BitVec.ofInt_natCast, BitVec.ofInt_natCast, BitVec.ofNat_toNat, BitVec.setWidth_eq, BitVec.xor_assoc, BitVec.xor_self, BitVec.xor_zero, BitVec.toNat_ofNat]
  omega
theorem rotS_twice (L : List Int) (k : Nat) (c : Int) (hk : k < L.length) (hb : IsBytes L) : rotS (rotS [L] 0 k c) 0 k c = [L] := by
  unfold rotS
  simp only [List.getD_cons_zero, List.set_cons_zero]
  have hby : Byte (L.getD k 0) := hb _ (by rw [List.getD_eq_getElem?_getD, List.getElem?_eq_getElem hk]; exact List.getElem_mem hk)
  rw [List.set_set]
  have e1 : (L.set k (xorI (L.getD k 0) c)).getD k 0 = xorI (L.getD k 0) c := by
    rw [List.getD_eq_getElem?_getD, List.getElem?_set_self hk]; rfl
  rw [e1, xorI_twice hby]
  congr 1
  apply List.ext_getElem?
  intro i
  by_cases e : k = i
  · subst e
    rw [List.getElem?_set_self hk, List.getD_eq_getElem?_getD, List.getElem?_eq_getElem hk]; rfl
  · rw [List.getElem?_set_ne e]
theorem rotS_at (L : List Int) (k : Nat) (c : Int) (hk : k < L.length) : ((rotS [L] 0 k c).getD 0 []).getD k 0 = xorI (L.getD k 0) c := by
  unfold rotS
  simp only [List.getD_cons_zero, List.set_cons_zero]
  rw [List.getD_eq_getElem?_getD, List.getElem?_set_self hk]; rfl
def rotsD (A Bb : List Int) : DiskD := (((disk0 1).put 0 A).flush).put 0 Bb
theorem secL_at (s : ByteArray) (k : Nat) : Byte ((secL s).getD k 0) ∨ (secL s).length ≤ k := by
  rcases Nat.lt_or_ge k (secL s).length with h | h
  · left; exact secL_bytes s _ (by rw [List.getD_eq_getElem?_getD, List.getElem?_eq_getElem h]; exact List.getElem_mem h)
  · exact .inr h
set_option maxRecDepth 100000 in
set_option maxHeartbeats 32000000 in
theorem lawRots_any (a b : ByteArray) (at_ : Int) (w : World) :
    Calls Try.prog 4 #[.string a, .string b, .int .i64 at_] w fun e w' => e = .returned (.bool true) ∧ Below w.heap.size w w' := by
  by_cases ha : 512 < a.size
  · go_enter Try.func4, Try.ntmps4
    go_wp2_with (go_at_call 5; refine Calls.mono (sure_any _) ?_; rintro e w9 ⟨rfl, hB⟩)
    go_ret
    exact ⟨rfl, hB⟩
  by_cases hb : 512 < b.size
  · go_enter Try.func4, Try.ntmps4
    go_wp2_with (go_at_call 5; refine Calls.mono (sure_any _) ?_; rintro e w9 ⟨rfl, hB⟩)
    go_ret
    exact ⟨rfl, hB⟩
  have ha : a.size ≤ 512 := by omega
  have hb : b.size ≤ 512 := by omega
  obtain ⟨k, ek, hk'⟩ := place_num at_ 512 (by decide) (by decide)
  have hk : k < 512 := by omega
  have kA := fun W : World => conv_bytes_at (secS a) 512 (secS_size a ha) W
  have kB := fun W : World => conv_bytes_at (secS b) 512 (secS_size b hb) W
  have hla := secL_len a ha
  have hlb := secL_len b hb
  have HLA := Lib.hid hla
  have HLB := Lib.hid hlb
  clear hla hlb
  go_enter Try.func4, Try.ntmps4
  go_upto_region 4 with (fail)
  rw [ek]
  generalize (IntKind.u64.wrap ((IntKind.u64.wrap at_).tdiv 512) % 256 + 1) % 256 = c
  clear ek
  go_wp2_with fail
  refine Calls.mono (new_ok 1 _ (by decide) (by decide)) ?_
  rintro e w1 ⟨gd, gn, gs, rfl, hd, hB⟩
  have H1 := Lib.hid hd
  have B1 := Lib.hid hB
  clear hd hB
  go_wp2_with fail
  refine Calls.mono (sector_any a _ (ha)) ?_
  rintro e w2 ⟨rfl, hB⟩
  have H2 := Lib.hid (H1.out.below hB)
  have B2 := Lib.hid (bstep B1.out hB)
  clear H1 B1
  clear hB
  have hB := bytesW_below w2 (secS a)
  have R3 := Lib.hid (bytesW_reads w2 (secS a) 512 (secS_size a (ha)) (by decide))
  rw [secS_bytes] at R3
  have A3 := Lib.hid (bytesW_apart w2 (secS a) (DS gd gn gs (.slice none 0 0)) (fun k hk => (H2.out.old k hk).2))
  have H3 := Lib.hid (H2.out.below hB)
  have B3 := Lib.hid (bstep B2.out hB)
  clear H2 B2
  clear hB
  go_wp2_with fail
  refine Calls.mono (write_ok 0 (some ⟨w2.heap.size, 0, none⟩) (capB w2 (secS a)) (secL a) _ H3.out (by decide) R3.out A3.out (by show (-1 : Int) ≠ 0; decide)) ?_
  rintro e w4 ⟨pv4, rfl, hd, hk, hf⟩
  clear R3 A3
  have H4 := Lib.hid hd
  have B4 := Lib.hid (below_kept B3.out hk (fun k _ hk => (H3.out.old k hk).1))
  clear hd hk H3 B3
  clear hf
  go_wp2_with fail
  refine Calls.mono (flush_ok _ H4.out) ?_
  rintro e w5 ⟨rfl, hd, hk⟩
  have H5 := Lib.hid hd
  have B5 := Lib.hid (below_kept B4.out hk (fun k _ hk => by rcases hk with rfl | rfl; exact H4.out.b1; exact H4.out.b3))
  clear hd hk H4 B4
  go_wp2_with fail
  refine Calls.mono (sector_any b _ (hb)) ?_
  rintro e w6 ⟨rfl, hB⟩
  have H6 := Lib.hid (H5.out.below hB)
  have B6 := Lib.hid (bstep B5.out hB)
  clear H5 B5
  clear hB
  have hB := bytesW_below w6 (secS b)
  have R7 := Lib.hid (bytesW_reads w6 (secS b) 512 (secS_size b (hb)) (by decide))
  rw [secS_bytes] at R7
  have A7 := Lib.hid (bytesW_apart w6 (secS b) (DS gd gn gs (.slice none 0 0)) (fun k hk => (H6.out.old k hk).2))
  have H7 := Lib.hid (H6.out.below hB)
  have B7 := Lib.hid (bstep B6.out hB)
  clear H6 B6
  clear hB
  go_wp2_with fail
  refine Calls.mono (write_ok 0 (some ⟨w6.heap.size, 0, none⟩) (capB w6 (secS b)) (secL b) _ H7.out (by decide) R7.out A7.out (by show (-1 : Int) ≠ 0; decide)) ?_
  rintro e w8 ⟨pv8, rfl, hd, hk, hf⟩
  clear R7 A7
  have H8 := Lib.hid hd
  have B8 := Lib.hid (below_kept B7.out hk (fun k _ hk => (H7.out.old k hk).1))
  clear hd hk H7 B7
  clear hf
  go_wp2_with fail
  refine Calls.mono (rot_ok 0 k c _ H8.out (by decide) hk) ?_
  rintro e w9 ⟨rfl, hd, hk2⟩
  have H9 := Lib.hid hd
  have B9 := Lib.hid (below_kept B8.out hk2 (fun k _ hk => by rcases hk with rfl | rfl; exact H8.out.b2; exact H8.out.b3))
  clear hd hk2 H8 B8
  have sa := secS_size a ha
  have sb := secS_size b hb
  have k0 : (0 : Int) ≤ (k : Int) := by omega
  have k1 : (k : Int) < (512 : Int) := by omega
  obtain ⟨Y, hY⟩ : ∃ Y, Y = (secL b).getD k 0 := ⟨_, rfl⟩
  obtain ⟨X, hX⟩ : ∃ X, X = xorI Y c := ⟨_, rfl⟩
  obtain ⟨Y2, hY2⟩ : ∃ Y, Y = (secL a).getD k 0 := ⟨_, rfl⟩
  obtain ⟨X2, hX2⟩ : ∃ X, X = xorI Y2 c := ⟨_, rfl⟩
  have ixb : ∀ h : k < (secS b).size, (((secS b)[k]'h).toNat : Int) = Y := fun h => by rw [hY]; exact sec_at b k h
  have ixa : ∀ h : k < (secS a).size, (((secS a)[k]'h).toNat : Int) = Y2 := fun h => by rw [hY2]; exact sec_at a k h
  have xb : Go.bits .xor .u8 Y c = X := by rw [hX]; exact xor8 Y c
  have xa : Go.bits .xor .u8 Y2 c = X2 := by rw [hX2]; exact xor8 Y2 c
  have HY := Lib.hid hY
  have HX := Lib.hid hX
  have HY2 := Lib.hid hY2
  have HX2 := Lib.hid hX2
  clear hY hX hY2 hX2
  go_wp2_with fail
  refine Calls.mono (read_ok 0 _ H9.out (by decide)) ?_
  rintro e wr1 ⟨v, rfl, ho, hB⟩
  obtain ⟨xa1, xc1, rfl, hr⟩ := ho.reads' (H9.out.snow.get (by decide)).2 (H9.out.snow.get (by decide)).1 (by decide)
  obtain ⟨xb1, xo1, rfl, _⟩ := hr.addr (by decide)
  have RX1 : Hid (ReadsB wr1 (some ⟨xb1, xo1, none⟩) 512 xc1 ((rotS [secL b] 0 k c).getD 0 [])) := Lib.hid (ReadsB.congr hr (rfl))
  have AX1 : Hid (¬ (xb1 = gd ∨ xb1 = gn ∨ xb1 = gs)) := Lib.hid (by
    have h1 := own_base ho xb1 rfl
    have h2 := H9.out.self.lt; have h3 := H9.out.rnow.lt; have h4 := H9.out.rsure.lt
    omega)
  have HDn := Lib.hid (H9.out.below hB)
  have BR1 := Lib.hid (bstep B9.out hB)
  clear ho hr hB H9 B9
  have HD := HDn
  clear HDn
  have HK : Hid (Kept (fun k => k = gd ∨ k = gn ∨ k = gs) wr1 wr1.drew) := Lib.hid ((Kept.refl _ _).drew)
  have HD0 := HD
  have n1 := Lib.hid (HD.out.drewN 1)
  clear HD
  have HD : Hid (DiskAt wr1.drew _ _ _ _ _ _ _) := n1
  clear n1
  have SH : Hid (∀ W' : World, Kept (fun k => k = gd ∨ k = gn ∨ k = gs) wr1 W' → W'.cell? ⟨xb1, xo1 + k, none⟩ = some (.int .u8 X)) := Lib.hid (fun W' hk2 => by
    obtain ⟨_, _, e, hc⟩ := RX1.out.addr (by decide)
    cases e
    have := hc k hk
    rw [rotS_at _ _ _ (by rw [HLB.out]; exact hk), ← HY.out, ← HX.out] at this
    exact hk2.cell this AX1.out)
  go_wp2_with fail
  go_region_held3 (fun W' => W'.cell? ⟨xb1, xo1 + k, none⟩ = some (.int .u8 X)) (first | assumption | exact SH.out _ HK.out) (first | (go_at_call 8; with_reducible refine Calls.mono (sector_any b _ hb) ?_; rintro e w91 ⟨rfl, hB⟩; have n0 := Lib.hid (HK.out.below hB); have n1 := Lib.hid (HD.out.below hB); clear HK HD hB; have HK := n0; have HD := n1; clear n0 n1) | (go_at_call 13; with_reducible refine Calls.mono (rot_ok 0 k c _ HD.out (by decide) hk) ?_; rintro e w92 ⟨rfl, hd, hk2⟩; have n0 := Lib.hid (HK.out.trans (hk2.mono (fun i _ h => .inr h))); have n1 := Lib.hid hd; clear HK HD hd hk2; have HK := n0; have HD := n1; clear n0 n1))
  have BW := Lib.hid (below_kept BR1.out HK.out (fun i _ hk2 => by rcases hk2 with rfl | rfl | rfl; exact HD0.out.b1; exact HD0.out.b2; exact HD0.out.b3))
  clear SH HK HD0 BR1
  go_wp2_with fail
  refine Calls.mono (read_ok 0 _ HD.out (by decide)) ?_
  rintro e wr2 ⟨v, rfl, ho, hB⟩
  obtain ⟨xa2, xc2, rfl, hr⟩ := ho.reads' (HD.out.snow.get (by decide)).2 (HD.out.snow.get (by decide)).1 (by decide)
  obtain ⟨xb2, xo2, rfl, _⟩ := hr.addr (by decide)
  have RX2 : Hid (ReadsB wr2 (some ⟨xb2, xo2, none⟩) 512 xc2 (secL b)) := Lib.hid (ReadsB.congr hr (by show (rotS (rotS [secL b] 0 k c) 0 k c).getD 0 [] = _; rw [rotS_twice _ _ _ (by rw [HLB.out]; exact hk) (secL_bytes b)]; rfl))
  have AX2 : Hid (¬ (xb2 = gd ∨ xb2 = gn ∨ xb2 = gs)) := Lib.hid (by
    have h1 := own_base ho xb2 rfl
    have h2 := HD.out.self.lt; have h3 := HD.out.rnow.lt; have h4 := HD.out.rsure.lt
    omega)
  have HDn := Lib.hid (HD.out.below hB)
  have BR2 := Lib.hid (bstep BW.out hB)
  clear ho hr hB HD BW
  have HD := HDn
  clear HDn
  have HK : Hid (Kept (fun k => k = gd ∨ k = gn ∨ k = gs) wr2 wr2.drew) := Lib.hid ((Kept.refl _ _).drew)
  have HD0 := HD
  have n1 := Lib.hid (HD.out.drewN 1)
  clear HD
  have HD : Hid (DiskAt wr2.drew _ _ _ _ _ _ _) := n1
  clear n1
  have SH : Hid (∀ W' : World, Kept (fun k => k = gd ∨ k = gn ∨ k = gs) wr2 W' → (convert 34 9 (.slice (some ⟨xb2, xo2, none⟩) 512 xc2)).run Try.prog W' = .ok (.string (secS b)) W') := Lib.hid (fun W' hk2 => conv_str (ReadsB.keptS RX2.out hk2 (fun ad e => by cases e; exact AX2.out)))
  go_wp2_with fail
  go_region_held3 (fun W' => (convert 34 9 (.slice (some ⟨xb2, xo2, none⟩) 512 xc2)).run Try.prog W' = .ok (.string (secS b)) W') (first | assumption | exact SH.out _ HK.out) (first | (go_at_call 8; with_reducible refine Calls.mono (sector_any b _ hb) ?_; rintro e w91 ⟨rfl, hB⟩; have n0 := Lib.hid (HK.out.below hB); have n1 := Lib.hid (HD.out.below hB); clear HK HD hB; have HK := n0; have HD := n1; clear n0 n1) | (go_at_call 13; with_reducible refine Calls.mono (rot_ok 0 k c _ HD.out (by decide) hk) ?_; rintro e w92 ⟨rfl, hd, hk2⟩; have n0 := Lib.hid (HK.out.trans (hk2.mono (fun i _ h => .inr h))); have n1 := Lib.hid hd; clear HK HD hd hk2; have HK := n0; have HD := n1; clear n0 n1) | (go_at_call 11; with_reducible refine Calls.mono (crash_ok none 0 0 [] (-1) 0 _ HD.out (nilReads _) (apartNone _) (mayNil _)) ?_; rintro e w93 ⟨rfl, hd, hk2⟩; have n0 := Lib.hid (HK.out.trans hk2); have n1 := Lib.hid hd; clear HK HD hd hk2; have HK := n0; have HD := n1; clear n0 n1))
  have BW := Lib.hid (below_kept BR2.out HK.out (fun i _ hk2 => by rcases hk2 with rfl | rfl | rfl; exact HD0.out.b1; exact HD0.out.b2; exact HD0.out.b3))
  clear SH HK HD0 BR2
  go_wp2_with fail
  refine Calls.mono (read_ok 0 _ HD.out (by decide)) ?_
  rintro e wr3 ⟨v, rfl, ho, hB⟩
  obtain ⟨xa3, xc3, rfl, hr⟩ := ho.reads' (HD.out.snow.get (by decide)).2 (HD.out.snow.get (by decide)).1 (by decide)
  obtain ⟨xb3, xo3, rfl, _⟩ := hr.addr (by decide)
  have RX3 : Hid (ReadsB wr3 (some ⟨xb3, xo3, none⟩) 512 xc3 ((rotS [secL a] 0 k c).getD 0 [])) := Lib.hid (ReadsB.congr hr (by show (rotS (rotS (rotS [secL a] 0 k c) 0 k c) 0 k c).getD 0 [] = _; rw [rotS_twice _ _ _ (by rw [HLA.out]; exact hk) (secL_bytes a)]))
  have AX3 : Hid (¬ (xb3 = gd ∨ xb3 = gn ∨ xb3 = gs)) := Lib.hid (by
    have h1 := own_base ho xb3 rfl
    have h2 := HD.out.self.lt; have h3 := HD.out.rnow.lt; have h4 := HD.out.rsure.lt
    omega)
  have HDn := Lib.hid (HD.out.below hB)
  have BR3 := Lib.hid (bstep BW.out hB)
  clear ho hr hB HD BW
  have HD := HDn
  clear HDn
  have HK : Hid (Kept (fun k => k = gd ∨ k = gn ∨ k = gs) wr3 wr3.drew) := Lib.hid ((Kept.refl _ _).drew)
  have HD0 := HD
  have n1 := Lib.hid (HD.out.drewN 1)
  clear HD
  have HD : Hid (DiskAt wr3.drew _ _ _ _ _ _ _) := n1
  clear n1
  have SH : Hid (∀ W' : World, Kept (fun k => k = gd ∨ k = gn ∨ k = gs) wr3 W' → W'.cell? ⟨xb3, xo3 + k, none⟩ = some (.int .u8 X2)) := Lib.hid (fun W' hk2 => by
    obtain ⟨_, _, e, hc⟩ := RX3.out.addr (by decide)
    cases e
    have := hc k hk
    rw [rotS_at _ _ _ (by rw [HLA.out]; exact hk), ← HY2.out, ← HX2.out] at this
    exact hk2.cell this AX3.out)
  go_wp2_with fail
  go_region_held3 (fun W' => W'.cell? ⟨xb3, xo3 + k, none⟩ = some (.int .u8 X2)) (first | assumption | exact SH.out _ HK.out) (first | (go_at_call 8; with_reducible refine Calls.mono (sector_any a _ ha) ?_; rintro e w91 ⟨rfl, hB⟩; have n0 := Lib.hid (HK.out.below hB); have n1 := Lib.hid (HD.out.below hB); clear HK HD hB; have HK := n0; have HD := n1; clear n0 n1) | (go_at_call 13; with_reducible refine Calls.mono (rot_ok 0 k c _ HD.out (by decide) hk) ?_; rintro e w92 ⟨rfl, hd, hk2⟩; have n0 := Lib.hid (HK.out.trans (hk2.mono (fun i _ h => .inr h))); have n1 := Lib.hid hd; clear HK HD hd hk2; have HK := n0; have HD := n1; clear n0 n1) | (go_at_call 5; with_reducible refine Calls.mono (sure_any _) ?_; rintro e w94 ⟨rfl, hB⟩; have n0 := Lib.hid (HK.out.below hB); have n1 := Lib.hid (HD.out.below hB); clear HK HD hB; have HK := n0; have HD := n1; clear n0 n1))
  have BW := Lib.hid (below_kept BR3.out HK.out (fun i _ hk2 => by rcases hk2 with rfl | rfl | rfl; exact HD0.out.b1; exact HD0.out.b2; exact HD0.out.b3))
  clear SH HK HD0 BR3
  all_goals
    go_wp2
    go_ret
    exact ⟨rfl, BW.out⟩
end Go.Proofs.Ytdoaalbgmdpamaa
