/-
  UndoNil, the half without a tree: what each call on no tree comes to.
-/
import Derived.Test.YthonibcfpojgpaaMap
import Derived.BigQuiet
namespace Go.Proofs.Ythonibcfpojgpaa
open Go Go.RowKit
set_option linter.unusedVariables false

def nilSl : Value := .slice none 0 0
theorem nil_add (w : World) (d : Value) : Calls Try.prog 25 #[.pointer none, d] w (Ret (.int .i64 0) w) := by
  go_enter Try.func25, Try.ntmps25
  go_wp2
  go_ret
  exact Ret.mk rfl (Below.refl _ _)
theorem nil_here (w : World) : Calls Try.prog 32 #[.pointer none] w (Ret (.int .i64 0) w) := by
  go_enter Try.func32, Try.ntmps32
  go_wp2
  go_ret
  exact Ret.mk rfl (Below.refl _ _)
theorem nil_len (w : World) : Calls Try.prog 28 #[.pointer none] w (Ret (.int .i64 0) w) := by
  go_enter Try.func28, Try.ntmps28
  go_wp2
  go_ret
  exact Ret.mk rfl (Below.refl _ _)
theorem nil_numbers (w : World) : Calls Try.prog 30 #[.pointer none] w (Ret nilSl w) := by
  go_enter Try.func30, Try.ntmps30
  go_wp2
  go_ret
  exact Ret.mk rfl (Below.refl _ _)
theorem nil_up (w : World) : Calls Try.prog 35 #[.pointer none] w (Ret (.tuple #[nilSl, .bool false]) w) := by
  go_enter Try.func35, Try.ntmps35
  go_wp2
  go_quiet (fail)
  go_wp2
  go_ret2
  exact Ret.mk rfl ⟨rfl, rfl, rfl, Nat.le_refl _, fun _ _ => rfl⟩
theorem nil_down (w : World) : Calls Try.prog 36 #[.pointer none] w (Ret (.tuple #[nilSl, .bool false]) w) := by
  go_enter Try.func36, Try.ntmps36
  go_wp2
  go_quiet (fail)
  go_wp2
  go_ret2
  exact Ret.mk rfl ⟨rfl, rfl, rfl, Nat.le_refl _, fun _ _ => rfl⟩
theorem nil_go (w : World) (n : Int) : Calls Try.prog 37 #[.pointer none, .int .i64 n] w (Ret (.tuple #[nilSl, .int .i64 2]) w) := by
  go_enter Try.func37, Try.ntmps37
  go_wp2
  go_ret2
  exact Ret.mk rfl (Below.refl _ _)
theorem nil_parent (w : World) (n : Int) : Calls Try.prog 40 #[.pointer none, .int .i64 n] w (Ret (.tuple #[.int .i64 0, .bool false]) w) := by
  go_enter Try.func40, Try.ntmps40
  go_wp2
  go_ret2
  exact Ret.mk rfl (Below.refl _ _)
theorem nil_next (w : World) (n : Int) : Calls Try.prog 41 #[.pointer none, .int .i64 n] w (Ret (.tuple #[.int .i64 0, .bool false]) w) := by
  go_enter Try.func41, Try.ntmps41
  go_wp2
  go_ret2
  exact Ret.mk rfl (Below.refl _ _)
theorem index_nil (w : World) (n : Int) : Calls Try.prog 87 #[nilSl, .int .i64 n] w (Ret (.int .i64 (-1)) w) := by
  unfold nilSl
  go_enter Try.func87, Try.ntmps87
  go_wp2
  refine wp_loop_rounds 1 ?_
  rw [rounds_succ]
  go_wp2
  go_ret
  exact Ret.mk rfl (Below.refl _ _)
theorem nil_beside (w : World) (n : Int) : Calls Try.prog 88 #[.pointer none, .int .i64 n] w (Ret (.tuple #[nilSl, .bool false]) w) := by
  go_enter Try.func88, Try.ntmps88
  go_wp2
  refine wp_loop_rounds 1 ?_
  rw [rounds_succ]
  go_wp2
  go_ret2
  exact Ret.mk rfl (Below.refl _ _)
theorem nil_older (w : World) : Calls Try.prog 38 #[.pointer none] w (Ret (.tuple #[nilSl, .bool false]) w) := by
  go_enter Try.func38, Try.ntmps38
  go_wp2
  refine wp_loop_rounds 1 ?_
  rw [rounds_succ]
  go_wp2
  go_ret2
  exact Ret.mk rfl (Below.refl _ _)
theorem nil_newer (w : World) : Calls Try.prog 39 #[.pointer none] w (Ret (.tuple #[nilSl, .bool false]) w) := by
  go_enter Try.func39, Try.ntmps39
  go_wp2
  refine wp_loop_rounds 1 ?_
  rw [rounds_succ]
  go_wp2
  go_ret2
  exact Ret.mk rfl (Below.refl _ _)
end Go.Proofs.Ythonibcfpojgpaa
