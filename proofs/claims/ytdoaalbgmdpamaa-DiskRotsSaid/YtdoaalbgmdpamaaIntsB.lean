/-
  'append(own, vs...)' of a readable list, and the walk of slices.Clone at ints, at this seat's numbers.
-/
import Derived.Test.YtdoaalbgmdpamaaInts
set_option linter.unusedVariables false
set_option linter.unusedSimpArgs false
namespace Go.Proofs.Ytdoaalbgmdpamaa
open Go Go.RowKit

/-- 'append(own, vs...)' -/
theorem wpList_append_vals {P : Program} {ops : Array Oper} {rest : List Oper} {o : Oper} {a : Act} {Q : Exit → Act → World → Prop} {w : World} (hgd : o.guard = none) (s x : Operand) (t : TypeId)
    (ho : o.op = .call { callee := .builtin .append, args := #[s, x], argTypes := #[t, t] })
    (base : Nat) (e : TypeId) (z : Value) (bytes : Nat) (ht : P.underlying t = some (.slice e)) (hinfo : (P.info? e).map (fun i => (i.zero, i.size, i.bytes)) = some (some z, 1, bytes)) (hzs : z.cells.size = 1)
    (v : Value) (xs : List Value) (hs : a.eval s = v) (hown : w.ownsRow base e 1 v xs.length xs)
    (ad : Option Addr) (m c : Nat) (ys : List Value) (hx : a.eval x = .slice ad m c) (hr : Reads w ad m c ys) (h1 : ∀ u ∈ ys, u.oneCell' = true)
    (hbytes : (xs.length + m) * bytes ≤ 140737488355328) (hb0 : 0 < bytes) (hbase : base ≤ w.heap.size)
    (h : ∀ v' w', w'.ownsRow base e 1 v' (xs ++ ys).length (xs ++ ys) → w.grownBy w' v.ownBlock → (∀ k, v'.ownBlock = some k → v.ownBlock = some k ∨ w.heap.size ≤ k) → wpList P ops Q rest (a.put o.dst v') w') : wpList P ops Q (o :: rest) a w := by
  obtain ⟨i0, hi, hz0, hz1, hz2⟩ := info_parts hinfo
  have h63 : xs.length + m ≤ maxLen := by
    have : xs.length + m ≤ (xs.length + m) * bytes := Nat.le_mul_of_pos_right _ hb0
    unfold maxLen; omega
  cases ad with
  | none =>
    obtain ⟨rfl, rfl⟩ := hr.nil rfl
    obtain rfl : ys = [] := List.eq_nil_of_length_eq_zero hr.len
    refine wpList_plain hgd fun _ hK => ?_
    have hrun := run_append_owned_none (P := P) (w := w) base t o.type e i0 1 ht hi v xs.length xs hown
    have hk := hK _ _ (h v w (by rw [List.append_nil]; exact hown) ⟨rfl, rfl, rfl, Nat.le_refl _, fun _ _ _ => rfl⟩ (fun k hk => .inl hk))
    unfold Oper.wp
    simp [execOp, ho, resolve, invoke, builtin, hs, hx, hrun, Result.andThen]
    exact hk
  | some ad =>
    refine wpList_plain hgd fun _ hK => wp_append_at s x t ho base e i0 z 1 bytes ht hi hz0 hz1 hz2 hzs (by decide) v xs.length xs hs hown ad m c ys hx (by rw [hr.len, Nat.mul_one]) ?_ h1 h63 hbytes hbase fun v' w' k1 k2 k3 => hK _ _ (h v' w' ?_ k2 k3)
    · intro j u hu
      have hj : j < ys.length := (List.getElem?_eq_some_iff.1 hu).1
      obtain ⟨b, off, e, hcc⟩ := hr.addr (by rw [← hr.len]; omega)
      cases e
      rw [addB]; exact hcc j u hu
    · rw [List.length_append, hr.len]; exact k1
theorem iV_one (xs : List Int) : ∀ u ∈ iV xs, u.oneCell' = true := by
  intro u hu
  simp only [iV, List.mem_map] at hu
  obtain ⟨c, _, rfl⟩ := hu
  rfl
theorem nilI (a : Option Addr) (n cap : Nat) (W : World) : (binOp .eql 29 (.slice a n cap) (.slice none 0 0)).run Try.prog W = .ok (.bool a.isNone) W :=
  Lib.run_eql_slice_nil W 29 3 a n cap _ _ Try.underlying29
theorem Try.infoI : (Try.prog.info? 3).map (fun i => (i.zero, i.size, i.bytes)) = some (some (.int .i64 0), 1, 8) := by kernel_rfl
theorem own_base' {w : World} {base e size n : Nat} {v : Value} {xs : List Value} (h : w.ownsRow base e size v n xs) (k : Nat) (hk : v.ownBlock = some k) : base ≤ k := (h.lt k hk).1
theorem own_empty (w : World) (base e : Nat) (hb : base ≤ w.heap.size) : (w.alloc (.cells #[] e)).ownsRow base e 1 (.slice (some ⟨w.heap.size, 0, none⟩) 0 0) ([] : List Value).length ([] : List Value) :=
  ⟨rfl, .inr ⟨w.heap.size, 0, #[], rfl, hb, Row.new w #[] e, Nat.le_refl _, by decide, rfl, rfl⟩⟩
set_option maxHeartbeats 1000000 in
theorem clone_ints (a : Option Addr) (n cap : Nat) (xs : List Int) (w : World) (hr : Reads w a n cap (iV xs)) (hn : n ≤ 17179869184) :
    Calls Try.prog 18 #[.slice a n cap] w fun e w' => ∃ v, e = .returned v ∧ w'.ownsRow w.heap.size 3 1 v (iV xs).length (iV xs) ∧ Below w.heap.size w w' := by
  have hnil := nilI a n cap
  cases a with
  | none =>
    obtain ⟨rfl, rfl⟩ := hr.nil rfl
    obtain rfl : xs = [] := by have := hr.len; rw [iV_len] at this; exact List.eq_nil_of_length_eq_zero this
    clear hr
    go_enter Try.func18, Try.ntmps18
    go_wp2
    go_ret
    exact ⟨_, rfl, World.ownsRow_nil _ _ _ _, Below.refl _ _⟩
  | some ad =>
    have HR := Lib.hid hr
    clear hr
    go_enter Try.func18, Try.ntmps18
    go_wp2_with (at_builtin; refine wpList_append_vals rfl _ _ 29 rfl w.heap.size 3 (.int .i64 0) 8 Try.underlying29 Try.infoI rfl _ ([] : List Value) rfl (own_empty w w.heap.size 3 (Nat.le_refl _)) (some ad) n cap (iV xs) rfl (Reads.below HR.out ((Below.refl _ _).alloc (Nat.le_refl _) _)) (iV_one xs) (by simp; omega) (by decide) (by simp) ?_; intro v1 w1 ho hg _; have hB := ((Below.refl _ _).alloc (Nat.le_refl _) _).grown hg (by simp) (fun k hk => by cases hk; simp); clear hg)
    go_ret
    exact ⟨_, rfl, ho, hB⟩
end Go.Proofs.Ytdoaalbgmdpamaa
