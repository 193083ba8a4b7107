/-
  The walk of package disk's Crash, at this seat's numbers.
-/
import Derived.Test.YtdoaalbgmdpamaaDiskE
set_option linter.unusedVariables false
set_option linter.unusedSimpArgs false
namespace Go.Proofs.Ytdoaalbgmdpamaa
open Go Go.RowKit

def tear (s now : List (List Int)) (i p : Nat) : List (List Int) := s.set i ((now.getD i []).take p ++ (s.getD i []).drop p)
def pendOf (D : DiskD) (k : Int) : Nat := D.pend.getD k.toNat 0
def crash1 (D : DiskD) (keep : List Int) : List (List Int) := over D.sure D.now (keep.map (pendOf D))
def crash2 (D : DiskD) (keep : List Int) (torn part : Int) : List (List Int) := if 0 ≤ torn then tear (crash1 D keep) D.now (pendOf D torn) part.toNat else crash1 D keep
def DiskD.crash (D : DiskD) (keep : List Int) (torn part : Int) : DiskD :=
  { now := over D.now (crash2 D keep torn part) D.pend, sure := crash2 D keep torn part, pend := [], writes := D.writes, left := -1 }
theorem crash_nil (a : Option Addr) (kn kcap : Nat) (torn part : Int) (w : World) :
    Calls Try.prog 11 #[.pointer none, .slice a kn kcap, .int .i64 torn, .int .i64 part] w fun e w' => e = .returned (errE 1) ∧ w = w' := by
  go_enter Try.func11, Try.ntmps11
  go_wp2
  go_ret
  exact ⟨rfl, rfl⟩
theorem crash_bad {gd gn gs : Nat} {pv : Value} {B n : Nat} {D : DiskD} (a : Option Addr) (kn kcap : Nat) (keep : List Int) (torn part : Int) (w : World) (h : DiskAt w gd gn gs pv B n D) (hr : Reads w a kn kcap (iV keep)) (hm : mayB D.pend.length keep torn part = false) :
    Calls Try.prog 11 #[.pointer (some ⟨gd, 0, none⟩), .slice a kn kcap, .int .i64 torn, .int .i64 part] w fun e w' => e = .returned (errE 1) ∧ Below w.heap.size w w' := by
  have H := Lib.hid h
  have HR := Lib.hid hr
  have HM := Lib.hid hm
  clear h hr hm
  go_enter Try.func11, Try.ntmps11
  go_wp2_with (go_at_call 19; refine Calls.mono (may_any _ _ _ keep torn part _ H.out HR.out) ?_; rintro e w1 ⟨rfl, hB⟩; have HB := Lib.hid hB; clear hB; rw [HM.out])
  go_ret
  exact ⟨rfl, HB.out⟩
theorem splice_part (L : List (List Int)) (h : ∀ s ∈ L, s.length = 512) (i : Nat) (hi : i < L.length) (b : List Int) (hb : b.length ≤ 512) : splice (secsV L) (i * 512) (bytesV b) = secsV (L.set i (b ++ (L.getD i []).drop b.length)) := by
  unfold splice secsV
  rw [flat_set L h i hi]
  have e : L.flatten.drop (i * 512 + b.length) = (L.getD i []).drop b.length ++ L.flatten.drop (i * 512 + 512) := by
    have hs : (L.getD i []).length = 512 := by
      have : L.getD i [] ∈ L := by rw [List.getD_eq_getElem?_getD, List.getElem?_eq_getElem hi]; exact List.getElem_mem _
      exact h _ this
    have e1 : L.flatten.drop (i * 512) = L.getD i [] ++ L.flatten.drop (i * 512 + 512) := by
      rw [← flat_part L h i hi, ← List.drop_drop, List.take_append_drop]
    rw [← List.drop_drop, e1, List.drop_append_of_le_length (by omega)]
  simp only [bytesV, List.map_append, List.map_take, List.map_drop, List.length_map]
  rw [← List.map_drop, ← List.map_drop, e, List.map_append]
  simp [List.append_assoc]
theorem DiskAt.tearSure {w : World} {gd gn gs : Nat} {pv : Value} {B n : Nat} {D : DiskD} (h : DiskAt w gd gn gs pv B n D) {i p : Nat} (hi : i < n) (hp : p ≤ 512) :
    DiskAt (w.setCells gs (i * 512) (bytesV ((D.now.getD i []).take p))) gd gn gs pv B n { D with sure := tear D.sure D.now i p } := by
  have hl : ((D.now.getD i []).take p).length = p := by rw [List.length_take, (h.snow.get hi).1]; omega
  have hy : IsBytes ((D.now.getD i []).take p ++ (D.sure.getD i []).drop p) := by
    intro c hc
    rcases List.mem_append.1 hc with h' | h'
    · exact (h.snow.get hi).2 c (List.mem_of_mem_take h')
    · exact (h.ssure.get hi).2 c (List.mem_of_mem_drop h')
  exact { h with
    ssure := h.ssure.set i (by rw [List.length_append, hl, List.length_drop, (h.ssure.get hi).1]; omega) hy
    self := h.self.setsOther _ _ _ h.ne2
    rsure := by
      have := Row.sets (bytesV ((D.now.getD i []).take p)) (i * 512) w (secsV D.sure) h.rsure (by rw [h.ssure.vlen, bytesV, List.length_map, hl]; omega)
      rw [splice_part D.sure (fun s hs => (h.ssure.2 s hs).1) i (by rw [h.ssure.1]; exact hi) _ (by rw [hl]; exact hp), hl] at this
      exact this
    rnow := h.rnow.setsOther _ _ _ h.ne3
    pend := Own.keptS (S := fun k => k = gs) h.pend ((Kept.refl _ _).setCells _ _ _ (fun _ => rfl)) (fun k hk => (h.pne k hk).2.2) }
theorem Try.infoB1 : (Try.prog.info? 5).map (·.size) = some 1 := by kernel_rfl
/-- 'copy(sure[:p], now[:p])', as the last operation of a region -/
theorem copy_part {ops : Array Oper} {op : Oper} {ac : Act} {Q : Exit → Act → World → Prop} {w : World} (x y : Operand) (hgd : op.guard = none)
    (ho : op.op = .call { callee := .builtin .copy, args := #[x, y], argTypes := #[34, 34] })
    (g o g' o' p c c' cap : Nat) (xs l : List Int) (t : TypeId) (hx : ac.eval x = .slice (some ⟨g, o, none⟩) p c) (hy : ac.eval y = .slice (some ⟨g', o', none⟩) p c') (hb : xs.length = p) (hr : ReadsB w (some ⟨g', o', none⟩) p cap xs) (hl : Row w g (bytesV l).toArray t) (hn : o + p ≤ l.length)
    (h : ∀ v, Q .normal (ac.put op.dst v) (w.setCells g o (bytesV xs))) : wpList Try.prog ops Q [op] ac w := by
  refine wpList_plain hgd fun _ hK => ?_
  have hbl : (bytesV xs).length = p := by simp [bytesV, hb]
  have hth := hl.there o p (by simpa [bytesV] using hn)
  have hrun := run_copy_cells (P := Try.prog) w 34 34 op.type 5 g o p c ⟨g', o', none⟩ p c' (bytesV xs) Try.underlying34 Try.infoB1 (by rw [hbl]; exact (Nat.min_self p).symm)
    (fun j v hv => by
      have hj : j < xs.length := by have := (List.getElem?_eq_some_iff.1 hv).1; simpa [bytesV] using this
      obtain ⟨b, off, e, hc⟩ := hr.addr (by omega)
      cases e
      rw [bytesV_get xs j hj] at hv
      rw [addB, hc j (by omega)]; exact hv)
    (fun j hj => (hth j (by omega)).1) (fun j hj => (hth j (by omega)).2) (fun v hv => by simp only [bytesV, List.mem_map] at hv; obtain ⟨c, _, rfl⟩ := hv; rfl)
  unfold Oper.wp execOp
  simp only [ho, resolve, invoke, builtin, Sem.run_bind, Sem.run_pure, Result.andThen_ok, List.map_toArray, List.map_cons, List.map_nil, hx, hy, hrun]
  exact hK _ _ (h _)
theorem may_yes {m : Nat} {keep : List Int} {torn part : Int} (h : mayB m keep torn part = true) : May m keep torn part := of_decide_eq_true h
theorem over_secs {n : Nat} {s now : List (List Int)} (hs : Secs n s) (hn : Secs n now) : ∀ l : List Nat, (∀ i ∈ l, i < n) → Secs n (over s now l) := by
  intro l
  induction l generalizing s with
  | nil => intro _; exact hs
  | cons a r ih =>
    intro h
    have ha := h a (List.mem_cons_self ..)
    exact ih (hs.set a (hn.get ha).1 (hn.get ha).2) (fun i hi => h i (List.mem_cons_of_mem _ hi))
set_option maxRecDepth 100000 in
set_option maxHeartbeats 16000000 in
theorem crash_ok {gd gn gs : Nat} {pv : Value} {B n : Nat} {D : DiskD} (a : Option Addr) (kn kcap : Nat) (keep : List Int) (torn part : Int) (w : World) (h : DiskAt w gd gn gs pv B n D) (hr : Reads w a kn kcap (iV keep)) (ha : Apart (DS gd gn gs pv) a) (hm : mayB D.pend.length keep torn part = true) :
    Calls Try.prog 11 #[.pointer (some ⟨gd, 0, none⟩), .slice a kn kcap, .int .i64 torn, .int .i64 part] w fun e w' => e = .returned .nilIface ∧ DiskAt w' gd gn gs (.slice none 0 0) B n (D.crash keep torn part) ∧ Kept (fun k => k = gd ∨ k = gn ∨ k = gs) w w' := by
  have H := Lib.hid h
  have HM := Lib.hid hm
  have HY := Lib.hid (may_yes hm)
  have hn2 := h.n2
  have hpl := h.plen'
  have hkn : kn ≤ 9223372036854775807 := by have := hr.fits; have := hr.room; omega
  have HKL : Hid (keep.length = kn) := Lib.hid (by rw [← hr.len, iV_len])
  have HR := Lib.hid hr
  have HA := Lib.hid ha
  have HPM : Hid (∀ x ∈ keep, pendOf D x < n) := Lib.hid (fun x hx => by
    have h1 := (may_yes hm).1 x hx
    exact h.plt _ (getD_mem _ _ (by have := h1.1; have := h1.2; omega)))
  obtain ⟨pa, pcap, rfl, _⟩ := h.pendAt
  clear h hr hm ha
  obtain ⟨pl, hplN⟩ : ∃ pl, pl = D.pend.length := ⟨_, rfl⟩
  rw [← hplN] at hpl H HM HY HA
  have HPN := Lib.hid hplN
  clear hplN
  go_enter Try.func11, Try.ntmps11
  go_wp2_with (go_at_call 19; refine Calls.mono (may_any _ _ _ keep torn part _ H.out HR.out) ?_; rintro e w1 ⟨rfl, hB⟩; rw [← HPN.out, HM.out]; have H1 := Lib.hid (H.out.below hB); have K1 := Lib.hid (Kept.ofBelow (S := fun k => k = gd ∨ k = gn ∨ k = gs) hB); have HR1 := Lib.hid (HR.out.below hB); clear hB)
  go_loopw [28] (fun i wr => ∃ k : Nat, k ≤ kn ∧ i = .int .i64 k ∧ DiskAt wr gd gn gs (.slice pa pl pcap) B n { D with sure := over D.sure D.now ((keep.take k).map (pendOf D)) } ∧ Kept (fun k => k = gd ∨ k = gn ∨ k = gs) w wr) (fun i _ => kn - (intOf i).toNat)
  case atStart => exact ⟨0, Nat.zero_le _, rfl, by rw [List.take_zero]; exact H1.out, K1.out⟩
  case round =>
    obtain ⟨k, hk, rfl, h2, k2⟩ := hrel
    have H2 := Lib.hid h2
    have K2 := Lib.hid k2
    clear h2 k2 H1 K1 HR1
    by_cases hlt : k < kn
    · have hlk : k < keep.length := by rw [HKL.out]; exact hlt
      obtain ⟨b, off, rfl, ck⟩ := (HR.out.kept K2.out (fun ad e hS => HA.out ad e (by rcases hS with h | h | h; exact .inl h; exact .inr (.inl h); exact .inr (.inr (.inl h))))).at_ k _ (iV_get keep k hlk)
      have hmem : keep.getD k 0 ∈ keep := by rw [List.getD_eq_getElem?_getD, List.getElem?_eq_getElem hlk]; exact List.getElem_mem hlk
      obtain ⟨hx0, hx1⟩ := HY.out.1 _ hmem
      have hin := HPM.out _ hmem
      have HT : Hid ((keep.take (k + 1)).map (pendOf D) = (keep.take k).map (pendOf D) ++ [pendOf D (keep.getD k 0)]) := Lib.hid (by rw [take_snocI keep k hlk, List.map_append]; rfl)
      have HV := Lib.hid (over_snoc D.sure D.now ((keep.take k).map (pendOf D)) (pendOf D (keep.getD k 0)))
      clear hmem hlk
      obtain ⟨X, hX⟩ := Int.eq_ofNat_of_zero_le hx0
      have hXl : X < D.pend.length := by rw [← HPN.out]; omega
      have HI0 : Hid (pendOf D (keep.getD k 0) = D.pend.getD X 0) := Lib.hid (by unfold pendOf; rw [hX]; rfl)
      have c2 : wr.cell? ⟨gd, 2, none⟩ = some (.slice pa pl pcap) := H2.out.self.cell 2 _ rfl
      obtain ⟨pb, po, hpa, cX⟩ := H2.out.pendRead.at_ X _ (intsV_get D.pend X hXl)
      rw [hX] at ck hx0 hx1
      have HXe := Lib.hid hX
      clear hX
      subst hpa
      have hXp : X < pl := by omega
      have HSL := Lib.hid (H.out.snow.get hin)
      have HRN := Lib.hid (H2.out.readNow hin)
      have HFL : Hid ((over D.sure D.now ((keep.take k).map (pendOf D))).flatten.length = n * 512) := Lib.hid H2.out.ssure.flat
      have c0 : wr.cell? ⟨gd, 0, none⟩ = some (.slice (some ⟨gn, 0, none⟩) n n) := H2.out.self.cell 0 _ rfl
      have c1 : wr.cell? ⟨gd, 1, none⟩ = some (.slice (some ⟨gs, 0, none⟩) n n) := H2.out.self.cell 1 _ rfl
      rw [← HI0.out] at cX
      generalize pendOf D (keep.getD k 0) = I at *
      generalize D.now.getD I [] = Y at *
      clear HI0
      go_upto_region 7 with (fail)
      refine wp_region_still_tail 13 (by kernel_rfl) (by kernel_rfl) ?_
      simp only [List.take_succ_cons, List.take_zero, List.drop_succ_cons, List.drop_zero]
      repeat (first | (refine still_load _ rfl rfl gn (I * 512) 512 rfl Y HSL.out.1 HRN.out.drewB ?_) | still_step)
      refine wpStill_nil ?_
      refine put_sector _ _ rfl rfl gs (I * 512) Y (over D.sure D.now ((keep.take k).map (pendOf D))).flatten _ rfl rfl HSL.out.1 H2.out.rsure.drew (by have := HFL.out; omega) ?_
      generalize hw3 : World.setCells _ gs (I * 512) (bytesV Y) = w3
      have H3 := Lib.hid ((H2.out.drewN 1).setSure hin HSL.out.1 HSL.out.2)
      have K3 := Lib.hid ((K2.out.drewN 1).setCells gs (I * 512) (bytesV Y) (fun _ => .inr (.inr rfl)))
      rw [show World.setCells (wr.drewN 1) gs (I * 512) (bytesV Y) = w3 from hw3] at H3 K3
      clear hw3 c0 c1 c2 cX ck
      go_wp2
      go_roundw
      case rel => exact ⟨k + 1, by omega, by go_num, by rw [HT.out, HV.out]; exact H3.out, K3.out⟩
      case measure => simp [intOf]; omega
    · have ek : keep.take k = keep := List.take_of_length_le (by rw [HKL.out]; omega)
      rw [ek] at H2
      clear ek
      have HL1 := Lib.hid H2.out.ssure
      have H2 : Hid (DiskAt wr gd gn gs (.slice pa pl pcap) B n { D with sure := crash1 D keep }) := H2
      have c2 : wr.cell? ⟨gd, 2, none⟩ = some (.slice pa pl pcap) := H2.out.self.cell 2 _ rfl
      by_cases ht : torn < 0
      · obtain ⟨S2, hS2⟩ : ∃ S2, S2 = crash2 D keep torn part := ⟨_, rfl⟩
        have HS2 := Lib.hid hS2
        have HS : Hid (DiskAt wr gd gn gs (.slice pa pl pcap) B n { D with sure := S2 }) := Lib.hid (by rw [hS2, crash2, if_neg (by omega)]; exact H2.out)
        have KS := K2
        clear hS2 H2 K2
        go_wp2
        clear c2
        go_loopw [84] (fun i wr => ∃ k : Nat, k ≤ pl ∧ i = .int .i64 k ∧ DiskAt wr gd gn gs (.slice pa pl pcap) B n { D with sure := S2, now := over D.now S2 (D.pend.take k) } ∧ Kept (fun k => k = gd ∨ k = gn ∨ k = gs) w wr) (fun i _ => pl - (intOf i).toNat)
        case atStart => exact ⟨0, Nat.zero_le _, rfl, HS.out, KS.out⟩
        case round =>
          obtain ⟨k, hk, rfl, h2, k2⟩ := hrel
          have H2 := Lib.hid h2
          have K2 := Lib.hid k2
          clear h2 k2 HS KS
          by_cases hlt : k < pl
          · have hlt' : k < D.pend.length := by rw [← HPN.out]; exact hlt
            obtain ⟨b, off, hpa, ck⟩ := H2.out.pendRead.at_ k _ (intsV_get D.pend k hlt')
            subst hpa
            have hin : D.pend.getD k 0 < n := H.out.plt _ (getD_mem _ _ hlt')
            have HT := Lib.hid (take_snoc' D.pend k hlt')
            have HV := Lib.hid (over_snoc D.now S2 (D.pend.take k) (D.pend.getD k 0))
            have HSL := Lib.hid (H2.out.ssure.get hin)
            have HRN := Lib.hid (H2.out.readSure hin)
            have HFL : Hid ((over D.now S2 (D.pend.take k)).flatten.length = n * 512) := Lib.hid H2.out.snow.flat
            have c0 : wr.cell? ⟨gd, 0, none⟩ = some (.slice (some ⟨gn, 0, none⟩) n n) := H2.out.self.cell 0 _ rfl
            have c1 : wr.cell? ⟨gd, 1, none⟩ = some (.slice (some ⟨gs, 0, none⟩) n n) := H2.out.self.cell 1 _ rfl
            generalize hI : D.pend.getD k 0 = I at *
            clear hI
            have HRN : Hid (ReadsB wr (some ⟨gs, I * 512, none⟩) 512 512 (S2.getD I [])) := HRN
            have HSL : Hid ((S2.getD I []).length = 512 ∧ IsBytes (S2.getD I [])) := HSL
            generalize S2.getD I [] = Y at *
            go_upto_region 15 with (fail)
            refine wp_region_still_tail 13 (by kernel_rfl) (by kernel_rfl) ?_
            simp only [List.take_succ_cons, List.take_zero, List.drop_succ_cons, List.drop_zero]
            repeat (first | (refine still_load _ rfl rfl gs (I * 512) 512 rfl Y HSL.out.1 HRN.out.drewB ?_) | still_step)
            refine wpStill_nil ?_
            refine put_sector _ _ rfl rfl gn (I * 512) Y (over D.now S2 (D.pend.take k)).flatten _ rfl rfl HSL.out.1 H2.out.rnow.drew (by have := HFL.out; omega) ?_
            generalize hw3 : World.setCells _ gn (I * 512) (bytesV Y) = w3
            have H3 := Lib.hid ((H2.out.drewN 1).setNow hin HSL.out.1 HSL.out.2)
            have K3 := Lib.hid ((K2.out.drewN 1).setCells gn (I * 512) (bytesV Y) (fun _ => .inr (.inl rfl)))
            rw [show World.setCells (wr.drewN 1) gn (I * 512) (bytesV Y) = w3 from hw3] at H3 K3
            clear hw3 c0 c1 ck
            go_wp2
            go_roundw
            case rel => exact ⟨k + 1, by omega, by go_num, by rw [HT.out, HV.out]; exact H3.out, K3.out⟩
            case measure => simp [intOf]; omega
          · obtain rfl : k = pl := by omega
            have c2 : wr.cell? ⟨gd, 2, none⟩ = some (.slice pa k pcap) := H2.out.self.cell 2 _ rfl
            have f2 := H2.out.self.free 2
            have c4 : wr.cell? ⟨gd, 4, none⟩ = some (.int .i64 D.left) := H2.out.self.cell 4 _ rfl
            have f4 := H2.out.self.free 4
            go_wp2
            go_ret
            have h5 := H2.out.setPend (w' := wr) (pv' := .slice none 0 0) (l := []) (Kept.refl _ _) (World.ownsRow_nil _ _ _ _) (fun k hk => by simp [Value.ownBlock] at hk) (fun i hi => by cases hi) List.nodup_nil
            have h6 := h5.setLeft (-1) (by decide)
            rw [List.take_of_length_le (by rw [← HPN.out]; exact Nat.le_refl _)] at h6
            refine ⟨rfl, ?_, (K2.out.setCell _ _ (fun _ => .inl rfl)).setCell _ _ (fun _ => .inl rfl)⟩
            unfold DiskD.crash
            rw [← HS2.out]
            exact h6
      · obtain ⟨T, rfl⟩ := Int.eq_ofNat_of_zero_le (show 0 ≤ torn by omega)
        obtain ⟨P, rfl⟩ := Int.eq_ofNat_of_zero_le HY.out.2.2.2.1
        have hP : P ≤ 512 := by have := HY.out.2.2.2.2; omega
        have hPi : (P : Int) ≤ (512 : Int) := by omega
        have hP0 : (0 : Int) ≤ (P : Int) := by omega
        have hT : T < pl := by
          rcases HY.out.2.2.1 with h | h
          · omega
          · have := h.1.2; omega
        have hT' : T < D.pend.length := by rw [← HPN.out]; exact hT
        have hin : D.pend.getD T 0 < n := H.out.plt _ (getD_mem _ _ hT')
        obtain ⟨S2, hS2⟩ : ∃ S2, S2 = crash2 D keep (T : Int) (P : Int) := ⟨_, rfl⟩
        have HS2 := Lib.hid hS2
        have HS2e : Hid (S2 = tear (crash1 D keep) D.now (D.pend.getD T 0) P) := Lib.hid (by rw [hS2, crash2, if_pos (by omega)]; rfl)
        clear hS2
        obtain ⟨pb, po, hpa, cT⟩ := H2.out.pendRead.at_ T _ (intsV_get D.pend T hT')
        subst hpa
        have c0 : wr.cell? ⟨gd, 0, none⟩ = some (.slice (some ⟨gn, 0, none⟩) n n) := H2.out.self.cell 0 _ rfl
        have c1 : wr.cell? ⟨gd, 1, none⟩ = some (.slice (some ⟨gs, 0, none⟩) n n) := H2.out.self.cell 1 _ rfl
        have HRN := Lib.hid ((H2.out.readNow hin).take hP)
        have HLN : Hid (((D.now.getD (D.pend.getD T 0) []).take P).length = P) := Lib.hid (by rw [List.length_take, (H.out.snow.get hin).1]; omega)
        have HFL : Hid ((crash1 D keep).flatten.length = n * 512) := Lib.hid HL1.out.flat
        generalize hI : D.pend.getD T 0 = I at *
        clear hI
        go_upto_region 11 with (fail)
        refine wp_region_still_tail 16 (by kernel_rfl) (by kernel_rfl) ?_
        simp only [List.take_succ_cons, List.take_zero, List.drop_succ_cons, List.drop_zero]
        repeat still_step
        refine wpStill_nil ?_
        refine copy_part _ _ rfl rfl gs (I * 512) gn (I * 512) P 512 512 512 ((D.now.getD I []).take P) (crash1 D keep).flatten _ rfl rfl HLN.out HRN.out.drewB H2.out.rsure.drew (by have := HFL.out; omega) ?_
        intro v78
        generalize hw3 : World.setCells _ gs (I * 512) (bytesV ((D.now.getD I []).take P)) = w3
        have HS := Lib.hid ((H2.out.drewN 1).tearSure hin hP)
        have KS := Lib.hid ((K2.out.drewN 1).setCells gs (I * 512) (bytesV ((D.now.getD I []).take P)) (fun _ => .inr (.inr rfl)))
        rw [show World.setCells (wr.drewN 1) gs (I * 512) (bytesV ((D.now.getD I []).take P)) = w3 from hw3] at HS KS
        have HS : Hid (DiskAt w3 gd gn gs (.slice (some ⟨pb, po, none⟩) pl pcap) B n { D with sure := S2 }) := Lib.hid (by rw [HS2e.out]; exact HS.out)
        clear hw3 c0 c1 cT c2 H2 K2
        have c2 : w3.cell? ⟨gd, 2, none⟩ = some (.slice (some ⟨pb, po, none⟩) pl pcap) := HS.out.self.cell 2 _ rfl
        go_wp2
        clear c2
        go_loopw [84] (fun i wr => ∃ k : Nat, k ≤ pl ∧ i = .int .i64 k ∧ DiskAt wr gd gn gs (.slice (some ⟨pb, po, none⟩) pl pcap) B n { D with sure := S2, now := over D.now S2 (D.pend.take k) } ∧ Kept (fun k => k = gd ∨ k = gn ∨ k = gs) w wr) (fun i _ => pl - (intOf i).toNat)
        case atStart => exact ⟨0, Nat.zero_le _, rfl, HS.out, KS.out⟩
        case round =>
          obtain ⟨k, hk, rfl, h2, k2⟩ := hrel
          have H2 := Lib.hid h2
          have K2 := Lib.hid k2
          clear h2 k2 HS KS
          by_cases hlt : k < pl
          · have hlt' : k < D.pend.length := by rw [← HPN.out]; exact hlt
            obtain ⟨b, off, hpa, ck⟩ := H2.out.pendRead.at_ k _ (intsV_get D.pend k hlt')
            cases hpa
            have hin : D.pend.getD k 0 < n := H.out.plt _ (getD_mem _ _ hlt')
            have HT := Lib.hid (take_snoc' D.pend k hlt')
            have HV := Lib.hid (over_snoc D.now S2 (D.pend.take k) (D.pend.getD k 0))
            have HSL := Lib.hid (H2.out.ssure.get hin)
            have HRN := Lib.hid (H2.out.readSure hin)
            have HFL : Hid ((over D.now S2 (D.pend.take k)).flatten.length = n * 512) := Lib.hid H2.out.snow.flat
            have c0 : wr.cell? ⟨gd, 0, none⟩ = some (.slice (some ⟨gn, 0, none⟩) n n) := H2.out.self.cell 0 _ rfl
            have c1 : wr.cell? ⟨gd, 1, none⟩ = some (.slice (some ⟨gs, 0, none⟩) n n) := H2.out.self.cell 1 _ rfl
            generalize hI : D.pend.getD k 0 = I at *
            clear hI
            have HRN : Hid (ReadsB wr (some ⟨gs, I * 512, none⟩) 512 512 (S2.getD I [])) := HRN
            have HSL : Hid ((S2.getD I []).length = 512 ∧ IsBytes (S2.getD I [])) := HSL
            generalize S2.getD I [] = Y at *
            go_upto_region 15 with (fail)
            refine wp_region_still_tail 13 (by kernel_rfl) (by kernel_rfl) ?_
            simp only [List.take_succ_cons, List.take_zero, List.drop_succ_cons, List.drop_zero]
            repeat (first | (refine still_load _ rfl rfl gs (I * 512) 512 rfl Y HSL.out.1 HRN.out.drewB ?_) | still_step)
            refine wpStill_nil ?_
            refine put_sector _ _ rfl rfl gn (I * 512) Y (over D.now S2 (D.pend.take k)).flatten _ rfl rfl HSL.out.1 H2.out.rnow.drew (by have := HFL.out; omega) ?_
            generalize hw3 : World.setCells _ gn (I * 512) (bytesV Y) = w3
            have H3 := Lib.hid ((H2.out.drewN 1).setNow hin HSL.out.1 HSL.out.2)
            have K3 := Lib.hid ((K2.out.drewN 1).setCells gn (I * 512) (bytesV Y) (fun _ => .inr (.inl rfl)))
            rw [show World.setCells (wr.drewN 1) gn (I * 512) (bytesV Y) = w3 from hw3] at H3 K3
            clear hw3 c0 c1 ck
            go_wp2
            go_roundw
            case rel => exact ⟨k + 1, by omega, by go_num, by rw [HT.out, HV.out]; exact H3.out, K3.out⟩
            case measure => simp [intOf]; omega
          · obtain rfl : k = pl := by omega
            have c2 : wr.cell? ⟨gd, 2, none⟩ = some (.slice (some ⟨pb, po, none⟩) k pcap) := H2.out.self.cell 2 _ rfl
            have f2 := H2.out.self.free 2
            have c4 : wr.cell? ⟨gd, 4, none⟩ = some (.int .i64 D.left) := H2.out.self.cell 4 _ rfl
            have f4 := H2.out.self.free 4
            go_wp2
            go_ret
            have h5 := H2.out.setPend (w' := wr) (pv' := .slice none 0 0) (l := []) (Kept.refl _ _) (World.ownsRow_nil _ _ _ _) (fun k hk => by simp [Value.ownBlock] at hk) (fun i hi => by cases hi) List.nodup_nil
            have h6 := h5.setLeft (-1) (by decide)
            rw [List.take_of_length_le (by rw [← HPN.out]; exact Nat.le_refl _)] at h6
            refine ⟨rfl, ?_, (K2.out.setCell _ _ (fun _ => .inl rfl)).setCell _ _ (fun _ => .inl rfl)⟩
            unfold DiskD.crash
            rw [← HS2.out]
            exact h6
end Go.Proofs.Ytdoaalbgmdpamaa
