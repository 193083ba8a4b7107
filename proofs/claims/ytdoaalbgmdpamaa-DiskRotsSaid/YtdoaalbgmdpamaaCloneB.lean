/-
  The walk of slices.Clone at bytes, at this seat's numbers.
-/
import Derived.Test.YtdoaalbgmdpamaaBytes
set_option linter.unusedVariables false
set_option linter.unusedSimpArgs false
namespace Go.Proofs.Ytdoaalbgmdpamaa
open Go Go.RowKit

theorem nilB (a : Option Addr) (n cap : Nat) (W : World) : (binOp .eql 34 (.slice a n cap) (.slice none 0 0)).run Try.prog W = .ok (.bool a.isNone) W :=
  Lib.run_eql_slice_nil W 34 5 a n cap _ _ Try.underlying34
set_option maxHeartbeats 1000000 in
theorem clone_any (a : Option Addr) (n cap : Nat) (xs : List Int) (w : World) (hr : ReadsB w a n cap xs) :
    Calls Try.prog 20 #[.slice a n cap] w fun e w' => ∃ v, e = .returned v ∧ OwnB w' w.heap.size v xs ∧ Below w.heap.size w w' := by
  have hnil := nilB a n cap
  cases a with
  | none =>
    obtain ⟨rfl, rfl⟩ := hr.nil rfl
    obtain rfl : xs = [] := List.eq_nil_of_length_eq_zero hr.len
    clear hr
    go_enter Try.func20, Try.ntmps20
    go_wp2
    go_ret
    exact ⟨_, rfl, World.ownsRow_nil _ _ _ _, Below.refl _ _⟩
  | some ad =>
    have hn := hr.bound
    have HR := Lib.hid hr
    clear hr
    go_enter Try.func20, Try.ntmps20
    go_wp2_with (at_builtin; refine wpList_append_bytes rfl _ _ rfl w.heap.size _ [] rfl (own_built w w.heap.size (Nat.le_refl _) #[] [] rfl (by simp)) (some ad) n cap xs rfl (ReadsB.below HR.out ((Below.refl _ _).alloc (Nat.le_refl _) _)) (by simp; omega) (by simp) ?_; intro v1 w1 ho hg; have hB := ((Below.refl _ _).alloc (Nat.le_refl _) _).grown hg (by simp) (fun k hk => by cases hk; simp); clear hg)
    go_ret
    exact ⟨_, rfl, ho, hB⟩
end Go.Proofs.Ytdoaalbgmdpamaa
