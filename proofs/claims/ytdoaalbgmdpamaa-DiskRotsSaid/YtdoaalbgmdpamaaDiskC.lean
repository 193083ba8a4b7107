/-
  The walk of package disk's Write, at this seat's numbers.
-/
import Derived.Test.YtdoaalbgmdpamaaDiskA
import Derived.Test.YtdoaalbgmdpamaaIntsB
import Derived.StillTailTactics
import Derived.Deep.Cut
import Derived.Deep.CutBlock
import Derived.Deep.DeepCutAuto
set_option linter.unusedVariables false
set_option linter.unusedSimpArgs false
namespace Go.Proofs.Ytdoaalbgmdpamaa
open Go Go.RowKit

def DiskD.put (D : DiskD) (i : Nat) (b : List Int) : DiskD :=
  { D with now := D.now.set i b, writes := wrap64 (D.writes + 1), left := if 0 < D.left then D.left - 1 else D.left, pend := if i ∈ D.pend then D.pend else D.pend ++ [i] }
theorem write_nil (i : Int) (a : Option Addr) (m cap : Nat) (w : World) :
    Calls Try.prog 7 #[.pointer none, .int .i64 i, .slice a m cap] w fun e w' => e = .returned (errE 1) ∧ w = w' := by
  go_enter Try.func7, Try.ntmps7
  go_wp2_with (go_at_call 15; refine Calls.mono (check_nil i _) ?_; rintro e w' ⟨rfl, rfl⟩)
  go_ret
  exact ⟨rfl, rfl⟩
theorem write_range {gd gn gs : Nat} {pv : Value} {B n : Nat} {D : DiskD} (i : Int) (a : Option Addr) (m cap : Nat) (w : World) (h : DiskAt w gd gn gs pv B n D) (hi : i < 0 ∨ (n : Int) ≤ i) :
    Calls Try.prog 7 #[.pointer (some ⟨gd, 0, none⟩), .int .i64 i, .slice a m cap] w fun e w' => e = .returned (errE 4) ∧ w = w' := by
  have H := Lib.hid h
  have HI := Lib.hid hi
  clear h hi
  go_enter Try.func7, Try.ntmps7
  go_wp2_with (go_at_call 15; refine Calls.mono (check_range i _ H.out HI.out) ?_; rintro e w' ⟨rfl, rfl⟩)
  go_ret
  exact ⟨rfl, rfl⟩
theorem write_long {gd gn gs : Nat} {pv : Value} {B n : Nat} {D : DiskD} (i : Nat) (a : Option Addr) (m cap : Nat) (w : World) (h : DiskAt w gd gn gs pv B n D) (hi : i < n) (hm : m ≠ 512) :
    Calls Try.prog 7 #[.pointer (some ⟨gd, 0, none⟩), .int .i64 (i : Int), .slice a m cap] w fun e w' => e = .returned (errE 2) ∧ w = w' := by
  have H := Lib.hid h
  have e1 : ((m : Int) != 512) = true := by simp; omega
  clear h hm
  go_enter Try.func7, Try.ntmps7
  go_wp2_with (go_at_call 15; refine Calls.mono (check_ok i _ H.out hi) ?_; rintro e w' ⟨rfl, rfl⟩)
  go_ret
  exact ⟨rfl, rfl⟩
theorem write_full {gd gn gs : Nat} {pv : Value} {B n : Nat} {D : DiskD} (i : Nat) (a : Option Addr) (cap : Nat) (w : World) (h : DiskAt w gd gn gs pv B n D) (hi : i < n) (hl : D.left = 0) :
    Calls Try.prog 7 #[.pointer (some ⟨gd, 0, none⟩), .int .i64 (i : Int), .slice a 512 cap] w fun e w' => e = .returned (errE 5) ∧ w = w' := by
  have c4 : w.cell? ⟨gd, 4, none⟩ = some (.int .i64 0) := by rw [← hl]; exact h.self.cell 4 _ rfl
  have H := Lib.hid h
  clear h hl
  go_enter Try.func7, Try.ntmps7
  go_wp2_with (go_at_call 15; refine Calls.mono (check_ok i _ H.out hi) ?_; rintro e w' ⟨rfl, rfl⟩)
  go_ret
  exact ⟨rfl, rfl⟩
theorem add_disk {gd gn gs : Nat} {pv : Value} {B n : Nat} {D : DiskD} (w : World) (h : DiskAt w gd gn gs pv B n D) :
    Calls Try.prog 16 #[.pointer (some ⟨gd, 3, none⟩), .int .i64 1] w fun e w' => (∃ x, e = .returned (.int .i64 x)) ∧ DiskAt w' gd gn gs pv B n { D with writes := wrap64 (D.writes + 1) } ∧ Kept (fun k => k = gd) w w' := by
  have c3 : w.cell? ⟨gd, 3, none⟩ = some (.int .i64 D.writes) := h.self.cell 3 _ rfl
  have f3 := h.self.free 3
  have hadd := run_call_add (P := Try.prog) Try.func22 (by kernel_rfl) (by kernel_rfl) (by kernel_rfl) .i64 (by kernel_rfl) (y := 1) (s := wrap64 (D.writes + 1)) c3 f3 (by simp [go_sem, wrap64, IntKind.wrap_i64])
  have H := Lib.hid h
  clear h
  go_enter Try.func16, Try.ntmps16
  go_wp2
  go_ret
  exact ⟨⟨_, rfl⟩, H.out.setWrites _, (Kept.refl _ _).setCell _ _ (fun _ => rfl)⟩
/-- the facts that a load, or a store, of a whole sector wants -/
theorem sector_size (b : List Int) (hb : b.length = 512) : (Try.prog.info? 57).map (·.size) = some (bytesV b).length := by
  rw [show (bytesV b).length = 512 by simp [bytesV, hb]]; kernel_rfl
theorem arrayAt_sector (b o cap : Nat) (W : World) : (Instr.arrayAt 57 (.slice (some ⟨b, o, none⟩) 512 cap)).run Try.prog W = .ok (.pointer (some ⟨b, o, none⟩)) W := by kernel_rfl
theorem load_sector {w : World} {g o : Nat} {b : List Int} (hb : b.length = 512) (hr : ReadsB w (some ⟨g, o, none⟩) 512 512 b ∨ ∃ cap, ReadsB w (some ⟨g, o, none⟩) 512 cap b) :
    (Instr.loadAt 57 (.pointer (some ⟨g, o, none⟩))).run Try.prog w = .ok (.agg (bytesV b).toArray) w := by
  obtain ⟨cap, hr⟩ : ∃ cap, ReadsB w (some ⟨g, o, none⟩) 512 cap b := by rcases hr with h | h; exact ⟨_, h⟩; exact h
  refine run_loadAt_mid (P := Try.prog) w g o 57 (bytesV b) _ ?_ Try.underlying57 rfl (sector_size b hb)
  intro j v hv
  obtain ⟨b', off', e, hc⟩ := hr.addr (by omega)
  cases e
  have hj : j < b.length := by
    have := (List.getElem?_eq_some_iff.1 hv).1
    simpa [bytesV] using this
  rw [bytesV, List.getElem?_map, List.getElem?_eq_getElem hj] at hv
  have := hc j (by omega)
  rw [List.getD_eq_getElem?_getD, List.getElem?_eq_getElem hj] at this
  rw [this]
  simpa using hv
theorem store_sector {w : World} {g o : Nat} {l : List Int} {t : TypeId} (h : Row w g (bytesV l).toArray t) {b : List Int} (hb : b.length = 512) (ho : o + 512 ≤ l.length) :
    (Instr.storeAt 57 (.pointer (some ⟨g, o, none⟩)) (.agg (bytesV b).toArray)).run Try.prog w = .ok () (w.setCells g o (bytesV b)) := by
  have hl : (bytesV b).length = 512 := by simp [bytesV, hb]
  have := run_storeAt_mid (P := Try.prog) w g o 57 (bytesV b).toArray (by simpa [hl] using h.there o 512 (by simpa [bytesV] using ho)) (by simpa using sector_size b hb) (all_oneCell_toArray (by
    intro v hv; simp only [bytesV, List.mem_map] at hv; obtain ⟨c, _, rfl⟩ := hv; rfl))
  simpa using this
/-- a whole sector read inside a region that draws its order -/
theorem still_load {ops : Array Oper} {rest : List Oper} {op : Oper} {ac : Act} {Q : Act → Prop} {w : World} (x : Operand) (hgd : op.guard = none) (ho : op.op = .load 57 x)
    (b o cap : Nat) (hx : ac.eval x = .pointer (some ⟨b, o, none⟩)) (xs : List Int) (hb : xs.length = 512) (hr : ReadsB w (some ⟨b, o, none⟩) 512 cap xs)
    (h : wpStill Try.prog ops w Q rest (ac.put op.dst (.agg (bytesV xs).toArray))) : wpStill Try.prog ops w Q (op :: rest) ac := by
  refine wpStill_step fun K hK => ?_
  rw [if_pos (by simp [Region.wanted, hgd])]
  have hrun := load_sector (w := w) (g := b) (o := o) hb (.inr ⟨cap, hr⟩)
  unfold Oper.still execOp
  simp only [ho, hx, Sem.run_bind, hrun, Result.andThen_ok, Sem.run_pure, Oper.stillUpon_value]
  exact hK _ h
/-- a whole sector written, as the last operation of a region -/
theorem put_sector {ops : Array Oper} {op : Oper} {ac : Act} {Q : Exit → Act → World → Prop} {w : World} (x y : Operand) (hgd : op.guard = none) (ho : op.op = .store 57 x y)
    (g o : Nat) (xs l : List Int) (t : TypeId) (hx : ac.eval x = .pointer (some ⟨g, o, none⟩)) (hy : ac.eval y = .agg (bytesV xs).toArray) (hb : xs.length = 512) (hl : Row w g (bytesV l).toArray t) (hn : o + 512 ≤ l.length)
    (h : Q .normal (ac.put op.dst undef) (w.setCells g o (bytesV xs))) : wpList Try.prog ops Q [op] ac w := by
  refine wpList_plain hgd fun _ hK => ?_
  have hrun := store_sector hl hb hn
  unfold Oper.wp execOp
  simp only [ho, hx, hy, Sem.run_bind, hrun, Result.andThen_ok, Sem.run_pure, Oper.upon_skip]
  exact hK _ _ h
theorem splice_sec (L : List (List Int)) (h : ∀ s ∈ L, s.length = 512) (i : Nat) (hi : i < L.length) (b : List Int) (hb : b.length = 512) : splice (secsV L) (i * 512) (bytesV b) = secsV (L.set i b) := by
  unfold splice secsV
  rw [flat_set L h i hi b]
  simp only [bytesV, List.map_append, List.map_take, List.map_drop, List.length_map, hb]
theorem Secs.vlen {n : Nat} {L : List (List Int)} (h : Secs n L) : (secsV L).length = n * 512 := by unfold secsV bytesV; rw [List.length_map, h.flat]
/-- a sector of what is now, written -/
theorem DiskAt.setNow {w : World} {gd gn gs : Nat} {pv : Value} {B n : Nat} {D : DiskD} (h : DiskAt w gd gn gs pv B n D) {i : Nat} (hi : i < n) {b : List Int} (hb : b.length = 512) (hy : IsBytes b) :
    DiskAt (w.setCells gn (i * 512) (bytesV b)) gd gn gs pv B n { D with now := D.now.set i b } :=
  { h with
    snow := h.snow.set i hb hy
    self := h.self.setsOther _ _ _ h.ne1
    rnow := by
      have := Row.sets (bytesV b) (i * 512) w (secsV D.now) h.rnow (by rw [h.snow.vlen, bytesV, List.length_map, hb]; omega)
      rw [splice_sec D.now (fun s hs => (h.snow.2 s hs).1) i (by rw [h.snow.1]; exact hi) b hb] at this
      exact this
    rsure := h.rsure.setsOther _ _ _ (Ne.symm h.ne3)
    pend := Own.keptS (S := fun k => k = gn) h.pend ((Kept.refl _ _).setCells _ _ _ (fun _ => rfl)) (fun k hk => (h.pne k hk).2.1) }
theorem DiskAt.setSure {w : World} {gd gn gs : Nat} {pv : Value} {B n : Nat} {D : DiskD} (h : DiskAt w gd gn gs pv B n D) {i : Nat} (hi : i < n) {b : List Int} (hb : b.length = 512) (hy : IsBytes b) :
    DiskAt (w.setCells gs (i * 512) (bytesV b)) gd gn gs pv B n { D with sure := D.sure.set i b } :=
  { h with
    ssure := h.ssure.set i hb hy
    self := h.self.setsOther _ _ _ h.ne2
    rsure := by
      have := Row.sets (bytesV b) (i * 512) w (secsV D.sure) h.rsure (by rw [h.ssure.vlen, bytesV, List.length_map, hb]; omega)
      rw [splice_sec D.sure (fun s hs => (h.ssure.2 s hs).1) i (by rw [h.ssure.1]; exact hi) b hb] at this
      exact this
    rnow := h.rnow.setsOther _ _ _ h.ne3
    pend := Own.keptS (S := fun k => k = gs) h.pend ((Kept.refl _ _).setCells _ _ _ (fun _ => rfl)) (fun k hk => (h.pne k hk).2.2) }
theorem nodup_len : ∀ (n : Nat) (l : List Nat), l.Nodup → (∀ i ∈ l, i < n) → l.length ≤ n
  | 0, l, _, h => by
    cases l with
    | nil => simp
    | cons a r => exact absurd (h a (List.mem_cons_self ..)) (by omega)
  | n + 1, l, hd, h => by
    have h1 := nodup_len n (l.erase n) (hd.erase n) (fun i hi => by
      have hm := List.mem_of_mem_erase hi
      have := h i hm
      have : i ≠ n := fun e => by subst e; exact (List.Nodup.not_mem_erase hd) hi
      omega)
    by_cases hn : n ∈ l
    · rw [List.length_erase_of_mem hn] at h1; omega
    · rw [List.erase_of_not_mem hn] at h1; omega
theorem DiskAt.plen {w : World} {gd gn gs : Nat} {pv : Value} {B n : Nat} {D : DiskD} (h : DiskAt w gd gn gs pv B n D) : (intsV D.pend).length ≤ 16384 := by
  have := nodup_len n D.pend h.pnd h.plt
  have := h.n2
  unfold intsV
  rw [List.length_map]
  omega
/-- another list pending: what was pending has grown -/
theorem DiskAt.setPend {w w' : World} {gd gn gs : Nat} {pv pv' : Value} {B n : Nat} {D : DiskD} (h : DiskAt w gd gn gs pv B n D) {l : List Nat} (hk : Kept (fun k => pv.ownBlock = some k) w w') (ho : w'.ownsRow B 3 1 pv' (intsV l).length (intsV l))
    (hb : ∀ k, pv'.ownBlock = some k → pv.ownBlock = some k ∨ w.heap.size ≤ k) (hlt : ∀ i ∈ l, i < n) (hnd : l.Nodup) : DiskAt (w'.setCell ⟨gd, 2, none⟩ pv') gd gn gs pv' B n { D with pend := l } := by
  have hne : ∀ k, pv'.ownBlock = some k → k ≠ gd ∧ k ≠ gn ∧ k ≠ gs := by
    intro k hk'
    rcases hb k hk' with h1 | h1
    · exact h.pne k h1
    · have := h.self.lt; have := h.rnow.lt; have := h.rsure.lt
      omega
  have hS := h.self.kept hk (fun e => (h.pne gd e).1 rfl)
  exact { h with
    plt := hlt, pnd := hnd
    self := hS.set 2 pv'
    rnow := (h.rnow.kept hk (fun e => (h.pne gn e).2.1 rfl)).setOther _ _ (Ne.symm h.ne1)
    rsure := (h.rsure.kept hk (fun e => (h.pne gs e).2.2 rfl)).setOther _ _ (Ne.symm h.ne2)
    pend := Own.keptS (S := fun k => k = gd) ho ((Kept.refl _ _).setCell _ _ (fun _ => rfl)) (fun k hk => (hne k hk).1)
    pne := hne }
set_option maxRecDepth 100000 in
set_option maxHeartbeats 4000000 in
theorem write_ok {gd gn gs : Nat} {pv : Value} {B n : Nat} {D : DiskD} (i : Nat) (a : Option Addr) (cap : Nat) (xs : List Int) (w : World) (h : DiskAt w gd gn gs pv B n D) (hi : i < n) (hr : ReadsB w a 512 cap xs) (ha : Apart (DS gd gn gs pv) a) (hl : D.left ≠ 0) :
    Calls Try.prog 7 #[.pointer (some ⟨gd, 0, none⟩), .int .i64 (i : Int), .slice a 512 cap] w fun e w' => ∃ pv', e = .returned .nilIface ∧ DiskAt w' gd gn gs pv' B n (D.put i xs) ∧ Kept (DS gd gn gs pv) w w' ∧ (∀ k, pv'.ownBlock = some k → pv.ownBlock = some k ∨ w.heap.size ≤ k) := by
  have H := Lib.hid h
  have HR := Lib.hid hr
  have HA := Lib.hid ha
  have c4 : w.cell? ⟨gd, 4, none⟩ = some (.int .i64 D.left) := h.self.cell 4 _ rfl
  have f4 := h.self.free 4
  have e0 : (D.left == 0) = false := by simpa using hl
  have hn2 := h.n2
  have hlb := h.lbd
  clear h hr ha
  obtain ⟨L, hL⟩ : ∃ L, L = if 0 < D.left then D.left - 1 else D.left := ⟨_, rfl⟩
  have HL := Lib.hid hL
  obtain ⟨bb, bo, rfl, _⟩ := HR.out.addr (by decide)
  have hn1 : bb ≠ gd := fun e => HA.out _ rfl (.inl e)
  have HLN := Lib.hid HR.out.len
  obtain ⟨pa, pcap, rfl, hpr, hpa⟩ := Own.reads H.out.pend
  have PL : Hid ((intsV D.pend).length ≤ 16384) := Lib.hid H.out.plen
  clear hpr
  have HB : Hid (B ≤ w.heap.size) := Lib.hid (Nat.le_of_lt (Nat.lt_of_le_of_lt H.out.b1 H.out.self.lt))
  have HPA : Hid (∀ S : Nat → Prop, (∀ k, DS gd gn gs (.slice pa (intsV D.pend).length pcap) k → ¬ S k) → Apart S pa) := Lib.hid (fun S hS => hpa S (fun k hk => hS k (.inr (.inr (.inr hk)))))
  clear hpa
  generalize hplN : (intsV D.pend).length = pl at *
  have HPN := Lib.hid hplN
  have hpl : pl ≤ 16384 := PL.out
  clear hplN
  by_cases hpos : 0 < D.left
  · have HS : Hid (DiskAt (w.setCell ⟨gd, 4, none⟩ (.int .i64 (D.left - 1))) gd gn gs (.slice pa pl pcap) B n { D with left := L }) := Lib.hid (by rw [HL.out, if_pos hpos]; exact H.out.setLeft _ ⟨by omega, by omega⟩)
    have KS : Hid (Kept (DS gd gn gs (.slice pa pl pcap)) w (w.setCell ⟨gd, 4, none⟩ (.int .i64 (D.left - 1)))) := Lib.hid ((Kept.refl _ _).setCell _ _ (fun _ => .inl rfl))
    clear hL
    go_enter Try.func7, Try.ntmps7
    go_upto_region 11 with (first | (go_at_call 15; refine Calls.mono (check_ok i _ H.out hi) ?_; rintro e w' ⟨rfl, rfl⟩) | (go_at_call 16; refine Calls.mono (add_disk _ HS.out) ?_; rintro e w2 ⟨⟨x, rfl⟩, h2, k2⟩; have H2 := Lib.hid h2; have K2 := Lib.hid (KS.out.step k2 (fun k _ hk => .inl hk)); clear h2 k2))
    clear HS KS
    have HR2 := Lib.hid (ReadsB.keptS HR.out K2.out HA.out)
    have c0 : w2.cell? ⟨gd, 0, none⟩ = some (.slice (some ⟨gn, 0, none⟩) n n) := H2.out.self.cell 0 _ rfl
    have ap := fun W => arrayAt_sector bb bo cap W
    refine wp_region_still_tail 9 (by kernel_rfl) (by kernel_rfl) ?_
    simp only [List.take_succ_cons, List.take_zero, List.drop_succ_cons, List.drop_zero]
    repeat (first | (refine still_load _ rfl rfl bb bo cap rfl xs HLN.out HR2.out.drewB ?_) | still_step)
    refine wpStill_nil ?_
    refine put_sector _ _ rfl rfl gn (i * 512) xs D.now.flatten _ rfl rfl HLN.out H2.out.rnow.drew (by have := H.out.snow.flat; omega) ?_
    generalize hw3 : World.setCells _ gn (i * 512) (bytesV xs) = w3
    have H3 := Lib.hid ((H2.out.drewN 1).setNow hi HLN.out HR.out.byte)
    have K3 := Lib.hid ((K2.out.drewN 1).setCells gn (i * 512) (bytesV xs) (fun _ => .inr (.inl rfl)))
    rw [show World.setCells (w2.drewN 1) gn (i * 512) (bytesV xs) = w3 from hw3] at H3 K3
    clear hw3 H2 K2 HR2 c0 ap
    have c2 : w3.cell? ⟨gd, 2, none⟩ = some (.slice pa pl pcap) := H3.out.self.cell 2 _ rfl
    have f2 := H3.out.self.free 2
    obtain ⟨pa', pcap', hpv, hpr, _⟩ := Own.reads H3.out.pend
    have HPR : Hid (Reads w3 pa pl pcap (intsV D.pend)) := Lib.hid (by
      have e : (intsV D.pend).length = pl := HPN.out
      cases hpv
      rw [← e]; exact hpr)
    clear hpv hpr
    by_cases hm : i ∈ D.pend
    · go_wp2_with (go_at_call 17; refine Calls.mono (contains_nat true _ _ _ D.pend i _ HPR.out (by omega) (by simpa using hm)) ?_; rintro e w' ⟨rfl, rfl⟩)
      go_ret
      refine ⟨_, rfl, ?_, K3.out, fun k hk => .inl hk⟩
      have e : D.put i xs = { now := D.now.set i xs, sure := D.sure, pend := D.pend, writes := wrap64 (D.writes + 1), left := L } := by
        unfold DiskD.put; rw [if_pos hm, ← HL.out]
      rw [e]
      exact H3.out
    · have HPL : Hid (∀ k, (Value.slice pa pl pcap).ownBlock = some k → k ≠ gd ∧ k ≠ gn ∧ k ≠ gs) := Lib.hid H3.out.pne
      go_wp2_with (first | (go_at_call 17; refine Calls.mono (contains_nat false _ _ _ D.pend i _ HPR.out (by omega) (by simpa using hm)) ?_; rintro e w' ⟨rfl, rfl⟩) | (at_builtin; refine wpList_append_one rfl _ _ 29 rfl B 3 (.int .i64 0) 8 Try.underlying29 Try.infoI rfl _ (intsV D.pend) rfl (H3.out.pend.alloc _) _ (.int .i64 (i : Int)) rfl (World.cell?_alloc_at _ _ _ _ rfl) rfl (by rw [HPN.out]; omega) (by decide) (by have := K3.out.size; have := HB.out; simp; omega) ?_; intro v4 w4 ho hg hb; obtain ⟨qa, qc, hq4, _, _⟩ := Own.reads ho; generalize hql : (intsV D.pend ++ [Value.int .i64 (i : Int)]).length = ql at hq4 ho; subst hq4; have HQ := Lib.hid hql; clear hql; have K4 := Lib.hid (((Kept.refl (fun k => (Value.slice pa pl pcap).ownBlock = some k) w3).alloc _).grown hg (fun k hk _ => hk)); have HO := Lib.hid ho; have HB4 := Lib.hid (show ∀ k, (Value.slice qa ql qc).ownBlock = some k → (Value.slice pa pl pcap).ownBlock = some k ∨ w3.heap.size ≤ k from fun k hk => (hb k hk).imp_right (fun h => Nat.le_trans (by simp) h)); have c24 := K4.out.cell c2 (fun e => (HPL.out gd e).1 rfl); have f24 := (H3.out.self.kept K4.out (fun e => (HPL.out gd e).1 rfl)).free 2; clear ho hg hb))
      go_ret
      have e : D.put i xs = { now := D.now.set i xs, sure := D.sure, pend := D.pend ++ [i], writes := wrap64 (D.writes + 1), left := L } := by
        unfold DiskD.put; rw [if_neg hm, ← HL.out]
      have e2 : intsV D.pend ++ [.int .i64 (i : Int)] = intsV (D.pend ++ [i]) := by simp [intsV]
      have HO' : w4.ownsRow B 3 1 (.slice qa ql qc) (intsV (D.pend ++ [i])).length (intsV (D.pend ++ [i])) := by rw [← e2, HQ.out]; exact HO.out
      refine ⟨_, rfl, ?_, ?_, fun k hk => (HB4.out k hk).imp_right (fun h => Nat.le_trans K3.out.size h)⟩
      · rw [e]
        exact H3.out.setPend K4.out HO' HB4.out (fun j hj => by
          rcases List.mem_append.1 hj with h | h
          · exact H.out.plt j h
          · simp at h; subst h; exact hi) (List.nodup_append.2 ⟨H.out.pnd, by simp, fun a ha b hb => by simp at hb; subst hb; exact fun e => hm (e ▸ ha)⟩)
      · exact (K3.out.step K4.out (fun k _ hk => .inr (.inr (.inr hk)))).setCell _ _ (fun _ => .inl rfl)
  · have HS : Hid (DiskAt w gd gn gs (.slice pa pl pcap) B n { D with left := L }) := Lib.hid (by rw [HL.out, if_neg hpos]; exact H.out)
    have KS : Hid (Kept (DS gd gn gs (.slice pa pl pcap)) w w) := Lib.hid (Kept.refl _ _)
    clear hL
    go_enter Try.func7, Try.ntmps7
    go_upto_region 11 with (first | (go_at_call 15; refine Calls.mono (check_ok i _ H.out hi) ?_; rintro e w' ⟨rfl, rfl⟩) | (go_at_call 16; refine Calls.mono (add_disk _ HS.out) ?_; rintro e w2 ⟨⟨x, rfl⟩, h2, k2⟩; have H2 := Lib.hid h2; have K2 := Lib.hid (KS.out.step k2 (fun k _ hk => .inl hk)); clear h2 k2))
    clear HS KS
    have HR2 := Lib.hid (ReadsB.keptS HR.out K2.out HA.out)
    have c0 : w2.cell? ⟨gd, 0, none⟩ = some (.slice (some ⟨gn, 0, none⟩) n n) := H2.out.self.cell 0 _ rfl
    have ap := fun W => arrayAt_sector bb bo cap W
    refine wp_region_still_tail 9 (by kernel_rfl) (by kernel_rfl) ?_
    simp only [List.take_succ_cons, List.take_zero, List.drop_succ_cons, List.drop_zero]
    repeat (first | (refine still_load _ rfl rfl bb bo cap rfl xs HLN.out HR2.out.drewB ?_) | still_step)
    refine wpStill_nil ?_
    refine put_sector _ _ rfl rfl gn (i * 512) xs D.now.flatten _ rfl rfl HLN.out H2.out.rnow.drew (by have := H.out.snow.flat; omega) ?_
    generalize hw3 : World.setCells _ gn (i * 512) (bytesV xs) = w3
    have H3 := Lib.hid ((H2.out.drewN 1).setNow hi HLN.out HR.out.byte)
    have K3 := Lib.hid ((K2.out.drewN 1).setCells gn (i * 512) (bytesV xs) (fun _ => .inr (.inl rfl)))
    rw [show World.setCells (w2.drewN 1) gn (i * 512) (bytesV xs) = w3 from hw3] at H3 K3
    clear hw3 H2 K2 HR2 c0 ap
    have c2 : w3.cell? ⟨gd, 2, none⟩ = some (.slice pa pl pcap) := H3.out.self.cell 2 _ rfl
    have f2 := H3.out.self.free 2
    obtain ⟨pa', pcap', hpv, hpr, _⟩ := Own.reads H3.out.pend
    have HPR : Hid (Reads w3 pa pl pcap (intsV D.pend)) := Lib.hid (by
      have e : (intsV D.pend).length = pl := HPN.out
      cases hpv
      rw [← e]; exact hpr)
    clear hpv hpr
    by_cases hm : i ∈ D.pend
    · go_wp2_with (go_at_call 17; refine Calls.mono (contains_nat true _ _ _ D.pend i _ HPR.out (by omega) (by simpa using hm)) ?_; rintro e w' ⟨rfl, rfl⟩)
      go_ret
      refine ⟨_, rfl, ?_, K3.out, fun k hk => .inl hk⟩
      have e : D.put i xs = { now := D.now.set i xs, sure := D.sure, pend := D.pend, writes := wrap64 (D.writes + 1), left := L } := by
        unfold DiskD.put; rw [if_pos hm, ← HL.out]
      rw [e]
      exact H3.out
    · have HPL : Hid (∀ k, (Value.slice pa pl pcap).ownBlock = some k → k ≠ gd ∧ k ≠ gn ∧ k ≠ gs) := Lib.hid H3.out.pne
      go_wp2_with (first | (go_at_call 17; refine Calls.mono (contains_nat false _ _ _ D.pend i _ HPR.out (by omega) (by simpa using hm)) ?_; rintro e w' ⟨rfl, rfl⟩) | (at_builtin; refine wpList_append_one rfl _ _ 29 rfl B 3 (.int .i64 0) 8 Try.underlying29 Try.infoI rfl _ (intsV D.pend) rfl (H3.out.pend.alloc _) _ (.int .i64 (i : Int)) rfl (World.cell?_alloc_at _ _ _ _ rfl) rfl (by rw [HPN.out]; omega) (by decide) (by have := K3.out.size; have := HB.out; simp; omega) ?_; intro v4 w4 ho hg hb; obtain ⟨qa, qc, hq4, _, _⟩ := Own.reads ho; generalize hql : (intsV D.pend ++ [Value.int .i64 (i : Int)]).length = ql at hq4 ho; subst hq4; have HQ := Lib.hid hql; clear hql; have K4 := Lib.hid (((Kept.refl (fun k => (Value.slice pa pl pcap).ownBlock = some k) w3).alloc _).grown hg (fun k hk _ => hk)); have HO := Lib.hid ho; have HB4 := Lib.hid (show ∀ k, (Value.slice qa ql qc).ownBlock = some k → (Value.slice pa pl pcap).ownBlock = some k ∨ w3.heap.size ≤ k from fun k hk => (hb k hk).imp_right (fun h => Nat.le_trans (by simp) h)); have c24 := K4.out.cell c2 (fun e => (HPL.out gd e).1 rfl); have f24 := (H3.out.self.kept K4.out (fun e => (HPL.out gd e).1 rfl)).free 2; clear ho hg hb))
      go_ret
      have e : D.put i xs = { now := D.now.set i xs, sure := D.sure, pend := D.pend ++ [i], writes := wrap64 (D.writes + 1), left := L } := by
        unfold DiskD.put; rw [if_neg hm, ← HL.out]
      have e2 : intsV D.pend ++ [.int .i64 (i : Int)] = intsV (D.pend ++ [i]) := by simp [intsV]
      have HO' : w4.ownsRow B 3 1 (.slice qa ql qc) (intsV (D.pend ++ [i])).length (intsV (D.pend ++ [i])) := by rw [← e2, HQ.out]; exact HO.out
      refine ⟨_, rfl, ?_, ?_, fun k hk => (HB4.out k hk).imp_right (fun h => Nat.le_trans K3.out.size h)⟩
      · rw [e]
        exact H3.out.setPend K4.out HO' HB4.out (fun j hj => by
          rcases List.mem_append.1 hj with h | h
          · exact H.out.plt j h
          · simp at h; subst h; exact hi) (List.nodup_append.2 ⟨H.out.pnd, by simp, fun a ha b hb => by simp at hb; subst hb; exact fun e => hm (e ▸ ha)⟩)
      · exact (K3.out.step K4.out (fun k _ hk => .inr (.inr (.inr hk)))).setCell _ _ (fun _ => .inl rfl)
end Go.Proofs.Ytdoaalbgmdpamaa
