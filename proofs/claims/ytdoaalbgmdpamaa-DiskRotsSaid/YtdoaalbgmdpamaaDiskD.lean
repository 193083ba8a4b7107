/-
  The walks of package disk's Flush, Rot and Pending, at this seat's numbers.
-/
import Derived.Test.YtdoaalbgmdpamaaDiskC
set_option linter.unusedVariables false
set_option linter.unusedSimpArgs false
namespace Go.Proofs.Ytdoaalbgmdpamaa
open Go Go.RowKit

/-- some sectors taken over -/
def over (s now : List (List Int)) (l : List Nat) : List (List Int) := l.foldl (fun s i => s.set i (now.getD i [])) s
theorem over_snoc (s now : List (List Int)) (l : List Nat) (i : Nat) : over s now (l ++ [i]) = (over s now l).set i (now.getD i []) := by simp [over]
def DiskD.flush (D : DiskD) : DiskD := { D with sure := over D.sure D.now D.pend, pend := [] }
theorem flush_nil (w : World) :
    Calls Try.prog 9 #[.pointer none] w fun e w' => e = .returned (errE 1) ∧ w = w' := by
  go_enter Try.func9, Try.ntmps9
  go_wp2
  go_ret
  exact ⟨rfl, rfl⟩
/-- what a disk's own pending list is in memory -/
theorem DiskAt.pendAt {w : World} {gd gn gs : Nat} {pv : Value} {B n : Nat} {D : DiskD} (h : DiskAt w gd gn gs pv B n D) : ∃ pa pcap, pv = .slice pa D.pend.length pcap ∧ Reads w pa D.pend.length pcap (intsV D.pend) := by
  obtain ⟨pa, pcap, hpv, hpr, _⟩ := Own.reads h.pend
  have e : (intsV D.pend).length = D.pend.length := by simp [intsV]
  rw [e] at hpv hpr
  exact ⟨pa, pcap, hpv, hpr⟩
theorem DiskAt.pendRead {w : World} {gd gn gs pl pcap : Nat} {pa : Option Addr} {B n : Nat} {D : DiskD} (h : DiskAt w gd gn gs (.slice pa pl pcap) B n D) : Reads w pa pl pcap (intsV D.pend) := by
  obtain ⟨pa', pcap', hpv, hpr⟩ := h.pendAt
  injection hpv with e1 e2 e3
  subst e1; subst e2; subst e3
  exact hpr
theorem intsV_get (l : List Nat) (k : Nat) (hk : k < l.length) : (intsV l)[k]? = some (.int .i64 ((l.getD k 0 : Nat) : Int)) := by
  unfold intsV
  rw [List.getElem?_map, List.getD_eq_getElem?_getD, List.getElem?_eq_getElem hk]; rfl
theorem getD_mem (l : List Nat) (k : Nat) (hk : k < l.length) : l.getD k 0 ∈ l := by
  rw [List.getD_eq_getElem?_getD, List.getElem?_eq_getElem hk]; exact List.getElem_mem hk
theorem take_snoc' (l : List Nat) (k : Nat) (hk : k < l.length) : l.take (k + 1) = l.take k ++ [l.getD k 0] := by
  rw [List.take_succ_eq_append_getElem hk, List.getD_eq_getElem?_getD, List.getElem?_eq_getElem hk]; rfl
theorem DiskAt.plen' {w : World} {gd gn gs : Nat} {pv : Value} {B n : Nat} {D : DiskD} (h : DiskAt w gd gn gs pv B n D) : D.pend.length ≤ 16384 := by
  have := nodup_len n D.pend h.pnd h.plt
  have := h.n2
  omega
set_option maxRecDepth 100000 in
set_option maxHeartbeats 4000000 in
theorem flush_ok {gd gn gs : Nat} {pv : Value} {B n : Nat} {D : DiskD} (w : World) (h : DiskAt w gd gn gs pv B n D) :
    Calls Try.prog 9 #[.pointer (some ⟨gd, 0, none⟩)] w fun e w' => e = .returned .nilIface ∧ DiskAt w' gd gn gs (.slice none 0 0) B n D.flush ∧ Kept (fun k => k = gd ∨ k = gs) w w' := by
  have H := Lib.hid h
  have hpl := h.plen'
  have hn2 := h.n2
  obtain ⟨pa, pcap, rfl, hpr⟩ := h.pendAt
  have HPR := Lib.hid hpr
  have c2 : w.cell? ⟨gd, 2, none⟩ = some (.slice pa D.pend.length pcap) := h.self.cell 2 _ rfl
  clear h hpr
  obtain ⟨pl, hplN⟩ : ∃ pl, pl = D.pend.length := ⟨_, rfl⟩
  rw [← hplN] at hpl c2 H HPR
  have HPN := Lib.hid hplN
  clear hplN
  have HK0 := Lib.hid (Kept.refl (fun k => k = gd ∨ k = gs) w)
  go_enter Try.func9, Try.ntmps9
  go_wp2
  clear c2
  go_loopw [13] (fun i wr => ∃ k : Nat, k ≤ pl ∧ i = .int .i64 k ∧ DiskAt wr gd gn gs (.slice pa pl pcap) B n { D with sure := over D.sure D.now (D.pend.take k) } ∧ Kept (fun k => k = gd ∨ k = gs) w wr) (fun i _ => pl - (intOf i).toNat)
  case atStart => exact ⟨0, Nat.zero_le _, rfl, by simpa [over] using H.out, HK0.out⟩
  case round =>
    obtain ⟨k, hk, rfl, h1, k1⟩ := hrel
    have H1 := Lib.hid h1
    have K1 := Lib.hid k1
    clear h1 k1
    by_cases hlt : k < pl
    · have hlt' : k < D.pend.length := by rw [← HPN.out]; exact hlt
      obtain ⟨b, off, rfl, ck⟩ := H1.out.pendRead.at_ k _ (intsV_get D.pend k hlt')
      have hin : D.pend.getD k 0 < n := H.out.plt _ (getD_mem _ _ hlt')
      have HT := Lib.hid (take_snoc' D.pend k hlt')
      have HV := Lib.hid (over_snoc D.sure D.now (D.pend.take k) (D.pend.getD k 0))
      have HSL := Lib.hid (H.out.snow.get hin)
      have HRN := Lib.hid (H1.out.readNow hin)
      have HFL : Hid ((over D.sure D.now (D.pend.take k)).flatten.length = n * 512) := Lib.hid H1.out.ssure.flat
      have c0 : wr.cell? ⟨gd, 0, none⟩ = some (.slice (some ⟨gn, 0, none⟩) n n) := H1.out.self.cell 0 _ rfl
      have c1 : wr.cell? ⟨gd, 1, none⟩ = some (.slice (some ⟨gs, 0, none⟩) n n) := H1.out.self.cell 1 _ rfl
      generalize hI : D.pend.getD k 0 = I at *
      clear hI
      generalize hX : D.now.getD I [] = X at *
      have HX := Lib.hid hX
      clear hX
      go_upto_region 6 with (fail)
      refine wp_region_still_tail 13 (by kernel_rfl) (by kernel_rfl) ?_
      simp only [List.take_succ_cons, List.take_zero, List.drop_succ_cons, List.drop_zero]
      repeat (first | (refine still_load _ rfl rfl gn (I * 512) 512 rfl X HSL.out.1 HRN.out.drewB ?_) | still_step)
      refine wpStill_nil ?_
      refine put_sector _ _ rfl rfl gs (I * 512) X (over D.sure D.now (D.pend.take k)).flatten _ rfl rfl HSL.out.1 H1.out.rsure.drew (by have := HFL.out; omega) ?_
      generalize hw3 : World.setCells _ gs (I * 512) (bytesV X) = w3
      have H3 := Lib.hid ((H1.out.drewN 1).setSure hin HSL.out.1 HSL.out.2)
      have K3 := Lib.hid ((K1.out.drewN 1).setCells gs (I * 512) (bytesV X) (fun _ => .inr rfl))
      rw [show World.setCells (wr.drewN 1) gs (I * 512) (bytesV X) = w3 from hw3] at H3 K3
      clear hw3 c0 c1 ck
      go_wp2
      go_roundw
      case rel => exact ⟨k + 1, by omega, by go_num, by rw [HT.out, HV.out]; exact H3.out, K3.out⟩
      case measure => simp [intOf]; omega
    · obtain rfl : k = pl := by omega
      have c2 : wr.cell? ⟨gd, 2, none⟩ = some (.slice pa k pcap) := H1.out.self.cell 2 _ rfl
      have f2 := H1.out.self.free 2
      go_wp2
      go_ret
      refine ⟨rfl, ?_, K1.out.setCell _ _ (fun _ => .inl rfl)⟩
      have := H1.out.setPend (w' := wr) (pv' := .slice none 0 0) (l := []) (Kept.refl _ _) (World.ownsRow_nil _ _ _ _) (fun k hk => by simp [Value.ownBlock] at hk) (fun i hi => by cases hi) List.nodup_nil
      rw [List.take_of_length_le (by rw [← HPN.out]; exact Nat.le_refl _)] at this
      exact this
theorem pending_nil (w : World) :
    Calls Try.prog 10 #[.pointer none] w fun e w' => e = .returned (.slice none 0 0) ∧ w = w' := by
  go_enter Try.func10, Try.ntmps10
  go_wp2
  go_ret
  exact ⟨rfl, rfl⟩
set_option maxHeartbeats 1000000 in
theorem pending_ok {gd gn gs : Nat} {pv : Value} {B n : Nat} {D : DiskD} (w : World) (h : DiskAt w gd gn gs pv B n D) :
    Calls Try.prog 10 #[.pointer (some ⟨gd, 0, none⟩)] w fun e w' => ∃ v, e = .returned v ∧ w'.ownsRow w.heap.size 3 1 v (intsV D.pend).length (intsV D.pend) ∧ Below w.heap.size w w' := by
  have hpl := h.plen'
  obtain ⟨pa, pcap, rfl, hpr⟩ := h.pendAt
  have HPR := Lib.hid hpr
  have c2 : w.cell? ⟨gd, 2, none⟩ = some (.slice pa D.pend.length pcap) := h.self.cell 2 _ rfl
  clear h hpr
  generalize D.pend.length = pl at *
  have HE := Lib.hid (intsV_iV D.pend)
  go_enter Try.func10, Try.ntmps10
  go_wp2_with (go_at_call 18; refine Calls.mono (clone_ints _ _ _ (D.pend.map fun i : Nat => (i : Int)) _ ?_ (by omega)) ?_; rw [← HE.out]; exact HPR.out; rintro e w1 ⟨v, rfl, ho, hB⟩; rw [← HE.out] at ho)
  go_ret
  exact ⟨_, rfl, ho, hB⟩
def rotS (L : List (List Int)) (i j : Nat) (c : Int) : List (List Int) := L.set i ((L.getD i []).set j (xorI ((L.getD i []).getD j 0) c))
def DiskD.rot (D : DiskD) (i j : Nat) (c : Int) : DiskD := { D with now := rotS D.now i j c, sure := rotS D.sure i j c }
theorem Secs.rot {n : Nat} {L : List (List Int)} (h : Secs n L) {i : Nat} (hi : i < n) (j : Nat) (c : Int) : Secs n (rotS L i j c) :=
  h.set i (by rw [List.length_set]; exact (h.get hi).1) (set_bytes _ _ _ (h.get hi).2 (xorI_byte _ _))
theorem getD_flat (L : List (List Int)) (h : ∀ s ∈ L, s.length = 512) (i j : Nat) (hi : i < L.length) (hj : j < 512) : L.flatten.getD (i * 512 + j) 0 = (L.getD i []).getD j 0 := by
  rw [← flat_part L h i hi, List.getD_eq_getElem?_getD, List.getD_eq_getElem?_getD, List.getElem?_take_of_lt hj, List.getElem?_drop]
theorem flat_set_one (L : List (List Int)) (h : ∀ s ∈ L, s.length = 512) (i j : Nat) (hi : i < L.length) (hj : j < 512) (c : Int) : (L.set i ((L.getD i []).set j c)).flatten = L.flatten.set (i * 512 + j) c := by
  rw [flat_set L h i hi]
  have hf : L.flatten.length = L.length * 512 := Secs.flat_len L h
  have hs : (L.getD i []).length = 512 := by
    have : L.getD i [] ∈ L := by rw [List.getD_eq_getElem?_getD, List.getElem?_eq_getElem hi]; exact List.getElem_mem _
    exact h _ this
  have e : L.flatten = L.flatten.take (i * 512) ++ (L.getD i [] ++ L.flatten.drop (i * 512 + 512)) := by
    rw [← flat_part L h i hi, ← List.drop_drop, List.take_append_drop, List.take_append_drop]
  have hl : (L.flatten.take (i * 512)).length = i * 512 := by rw [List.length_take]; omega
  conv => rhs; rw [e]
  rw [List.set_append_right _ _ (by omega), hl, show i * 512 + j - i * 512 = j by omega, List.set_append_left _ _ (by omega), List.append_assoc]
theorem bytesV_get (l : List Int) (k : Nat) (hk : k < l.length) : (bytesV l)[k]? = some (.int .u8 (l.getD k 0)) := by
  unfold bytesV
  rw [List.getElem?_map, List.getD_eq_getElem?_getD, List.getElem?_eq_getElem hk]; rfl
theorem Row.byte {w : World} {g n : Nat} {L : List (List Int)} {t : TypeId} (h : Row w g (secsV L).toArray t) (hs : Secs n L) (i j : Nat) (hi : i < n) (hj : j < 512) : w.cell? ⟨g, i * 512 + j, none⟩ = some (.int .u8 ((L.getD i []).getD j 0)) := by
  refine h.cell _ _ ?_
  rw [List.getElem?_toArray, secsV, bytesV_get _ _ (by rw [hs.flat]; omega), getD_flat L (fun s hs' => (hs.2 s hs').1) i j (by rw [hs.1]; exact hi) hj]
theorem Row.turn {w : World} {g n : Nat} {L : List (List Int)} {t : TypeId} (h : Row w g (secsV L).toArray t) (hs : Secs n L) (i j : Nat) (hi : i < n) (hj : j < 512) (c : Int) : Row (w.setCell ⟨g, i * 512 + j, none⟩ (.int .u8 (xorI ((L.getD i []).getD j 0) c))) g (secsV (rotS L i j c)).toArray t := by
  have := h.set (i * 512 + j) (.int .u8 (xorI ((L.getD i []).getD j 0) c))
  rw [List.setIfInBounds_toArray] at this
  rw [rotS, secsV, flat_set_one L (fun s hs' => (hs.2 s hs').1) i j (by rw [hs.1]; exact hi) hj, bytesV, List.map_set]
  exact this
theorem DiskAt.rotSure {w : World} {gd gn gs : Nat} {pv : Value} {B n : Nat} {D : DiskD} (h : DiskAt w gd gn gs pv B n D) (i j : Nat) (hi : i < n) (hj : j < 512) (c : Int) : DiskAt (w.setCell ⟨gs, i * 512 + j, none⟩ (.int .u8 (xorI ((D.sure.getD i []).getD j 0) c))) gd gn gs pv B n { D with sure := rotS D.sure i j c } :=
  { h with
    ssure := h.ssure.rot hi j c
    self := h.self.setOther _ _ h.ne2
    rsure := h.rsure.turn h.ssure i j hi hj c
    rnow := h.rnow.setOther _ _ h.ne3
    pend := Own.keptS (S := fun k => k = gs) h.pend ((Kept.refl _ _).setCell _ _ (fun _ => rfl)) (fun k hk => (h.pne k hk).2.2) }
theorem DiskAt.rotNow {w : World} {gd gn gs : Nat} {pv : Value} {B n : Nat} {D : DiskD} (h : DiskAt w gd gn gs pv B n D) (i j : Nat) (hi : i < n) (hj : j < 512) (c : Int) : DiskAt (w.setCell ⟨gn, i * 512 + j, none⟩ (.int .u8 (xorI ((D.now.getD i []).getD j 0) c))) gd gn gs pv B n { D with now := rotS D.now i j c } :=
  { h with
    snow := h.snow.rot hi j c
    self := h.self.setOther _ _ h.ne1
    rnow := h.rnow.turn h.snow i j hi hj c
    rsure := h.rsure.setOther _ _ (Ne.symm h.ne3)
    pend := Own.keptS (S := fun k => k = gn) h.pend ((Kept.refl _ _).setCell _ _ (fun _ => rfl)) (fun k hk => (h.pne k hk).2.1) }
theorem rot_nil (i at_ c : Int) (w : World) :
    Calls Try.prog 13 #[.pointer none, .int .i64 i, .int .i64 at_, .int .u8 c] w fun e w' => e = .returned (errE 1) ∧ w = w' := by
  go_enter Try.func13, Try.ntmps13
  go_wp2_with (go_at_call 15; refine Calls.mono (check_nil i _) ?_; rintro e w' ⟨rfl, rfl⟩)
  go_ret
  exact ⟨rfl, rfl⟩
theorem rot_range {gd gn gs : Nat} {pv : Value} {B n : Nat} {D : DiskD} (i at_ c : Int) (w : World) (h : DiskAt w gd gn gs pv B n D) (hi : i < 0 ∨ (n : Int) ≤ i) :
    Calls Try.prog 13 #[.pointer (some ⟨gd, 0, none⟩), .int .i64 i, .int .i64 at_, .int .u8 c] w fun e w' => e = .returned (errE 4) ∧ w = w' := by
  have H := Lib.hid h
  have HI := Lib.hid hi
  clear h hi
  go_enter Try.func13, Try.ntmps13
  go_wp2_with (go_at_call 15; refine Calls.mono (check_range i _ H.out HI.out) ?_; rintro e w' ⟨rfl, rfl⟩)
  go_ret
  exact ⟨rfl, rfl⟩
theorem rot_at {gd gn gs : Nat} {pv : Value} {B n : Nat} {D : DiskD} (i : Nat) (at_ c : Int) (w : World) (h : DiskAt w gd gn gs pv B n D) (hi : i < n) (ha : at_ < 0 ∨ 512 ≤ at_) :
    Calls Try.prog 13 #[.pointer (some ⟨gd, 0, none⟩), .int .i64 (i : Int), .int .i64 at_, .int .u8 c] w fun e w' => e = .returned (errE 4) ∧ w = w' := by
  have H := Lib.hid h
  clear h
  rcases ha with ha | ha
  · go_enter Try.func13, Try.ntmps13
    go_wp2_with (go_at_call 15; refine Calls.mono (check_ok i _ H.out hi) ?_; rintro e w' ⟨rfl, rfl⟩)
    go_ret
    exact ⟨rfl, rfl⟩
  · have ha' : ¬ at_ < 0 := by omega
    go_enter Try.func13, Try.ntmps13
    go_wp2_with (go_at_call 15; refine Calls.mono (check_ok i _ H.out hi) ?_; rintro e w' ⟨rfl, rfl⟩)
    go_ret
    exact ⟨rfl, rfl⟩
set_option maxRecDepth 100000 in
set_option maxHeartbeats 4000000 in
theorem rot_ok {gd gn gs : Nat} {pv : Value} {B n : Nat} {D : DiskD} (i j : Nat) (c : Int) (w : World) (h : DiskAt w gd gn gs pv B n D) (hi : i < n) (hj : j < 512) :
    Calls Try.prog 13 #[.pointer (some ⟨gd, 0, none⟩), .int .i64 (i : Int), .int .i64 (j : Int), .int .u8 c] w fun e w' => e = .returned .nilIface ∧ DiskAt w' gd gn gs pv B n (D.rot i j c) ∧ Kept (fun k => k = gn ∨ k = gs) w w' := by
  have H := Lib.hid h
  have hn2 := h.n2
  have c0 : w.cell? ⟨gd, 0, none⟩ = some (.slice (some ⟨gn, 0, none⟩) n n) := h.self.cell 0 _ rfl
  have c1 : w.cell? ⟨gd, 1, none⟩ = some (.slice (some ⟨gs, 0, none⟩) n n) := h.self.cell 1 _ rfl
  have cb := h.rsure.byte h.ssure i j hi hj
  have fb := h.rsure.free (i * 512 + j)
  clear h
  have HX := Lib.hid (xor8 ((D.sure.getD i []).getD j 0) c)
  have HY := Lib.hid (xor8 ((D.now.getD i []).getD j 0) c)
  generalize hx : (D.sure.getD i []).getD j 0 = X at *
  have HXe := Lib.hid hx
  clear hx
  go_enter Try.func13, Try.ntmps13
  go_upto_region 6 with (first | (go_at_call 15; refine Calls.mono (check_ok i _ H.out hi) ?_; rintro e w' ⟨rfl, rfl⟩))
  go_still_tail 13, (by kernel_rfl)
  change wpList _ _ _ _ _ w.drew
  go_upto_region 7 with (fail)
  generalize hw3 : World.drew _ = w3
  have H3 := Lib.hid ((H.out.rotSure i j hi hj c).drewN 1)
  have K3 := Lib.hid ((((Kept.refl (fun k => k = gn ∨ k = gs) w).setCell ⟨gs, i * 512 + j, none⟩ (.int .u8 (xorI X c)) (fun _ => .inr rfl))).drewN 1)
  rw [HXe.out, show World.drewN (w.setCell ⟨gs, i * 512 + j, none⟩ (.int .u8 (xorI X c))) 1 = w3 by rw [← HX.out]; exact hw3] at H3
  rw [show World.drewN (w.setCell ⟨gs, i * 512 + j, none⟩ (.int .u8 (xorI X c))) 1 = w3 by rw [← HX.out]; exact hw3] at K3
  clear hw3 c0 c1 cb fb
  have c0 : w3.cell? ⟨gd, 0, none⟩ = some (.slice (some ⟨gn, 0, none⟩) n n) := H3.out.self.cell 0 _ rfl
  have cb := H3.out.rnow.byte H.out.snow i j hi hj
  have fb := H3.out.rnow.free (i * 512 + j)
  generalize hy : (D.now.getD i []).getD j 0 = Y at *
  have HYe := Lib.hid hy
  clear hy
  go_still_tail 13, (by kernel_rfl)
  change wpList _ _ _ _ _ w3.drew
  go_wp2
  go_ret
  have H4 := (H3.out.rotNow i j hi hj c).drewN 1
  refine ⟨rfl, ?_, ?_⟩
  · rw [HY.out]
    rw [HYe.out] at H4
    exact H4
  · rw [HY.out]
    exact (K3.out.setCell ⟨gn, i * 512 + j, none⟩ (.int .u8 (xorI Y c)) (fun _ => .inl rfl)).drewN 1
end Go.Proofs.Ytdoaalbgmdpamaa
