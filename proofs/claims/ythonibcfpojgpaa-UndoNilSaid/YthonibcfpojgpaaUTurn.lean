/-
  delta.Turn of nothing.
-/
import Derived.Test.YthonibcfpojgpaaUndo
import Derived.Test.YthonibcfpojgpaaIter
import Derived.Lib.SliceRun
namespace Go.Proofs.Ythonibcfpojgpaa
open Go Go.RowKit
set_option linter.unusedVariables false

theorem mk0 (w : World) : ∃ o : Obj, (Instr.makeSlice 95 (.int .i64 0) (.int .i64 0)).run Try.prog w = .ok (.slice (some ⟨w.heap.size, 0, none⟩) 0 0) (w.alloc o) := by
  have hi : (Try.prog.info? 169).map (fun i => (i.zero, i.bytes)) = some (some (.agg #[.int .i64 0, .slice none 0 0, .slice none 0 0]), 56) := by kernel_rfl
  obtain ⟨i0, hi0, hz⟩ := Option.map_eq_some_iff.1 hi
  simp only [Prod.mk.injEq] at hz
  have ht : Try.prog.underlying 95 = some (.slice 169) := by kernel_rfl
  exact ⟨_, run_make w _ _ i0 _ ht hi0 hz.1 .i64 .i64 0 0 (by decide) (by decide) (by rw [hz.2]; decide) (by decide)⟩
theorem back0_calls {w : World} {b : Nat} (l : Nat) (hc : w.cell? ⟨b, 0, none⟩ = some (.slice none 0 0)) :
    Calls Try.prog 218 #[.func (.yield l) #[] #[], .pointer (some ⟨b, 0, none⟩)] w fun e w' => e = .returned (.tuple #[]) ∧ w' = w := by
  go_enter Try.func218, Try.ntmps218
  go_wp2
  refine wp_loop_rounds 1 ?_
  rw [rounds_succ]
  go_wp2
  go_end0
  exact ⟨rfl, rfl⟩
theorem back_iter {w : World} {b : Nat} {E : Unit → Array Value → Prop} {M : Nat → Prop} (hM : ¬ M b) (hc : w.cell? ⟨b, 0, none⟩ = some (.slice none 0 0)) :
    Iter Try.prog 218 #[.pointer (some ⟨b, 0, none⟩)] E [] M w := by
  intro n l J Jx W hk hJ hJx hr h0
  refine callsIn_wide.2 ((back0_calls l (hk.cell hc hM)).mono ?_)
  rintro e w' ⟨rfl, rfl⟩
  exact ⟨⟨_, rfl⟩, .inl ⟨None', fun b hb => hb.elim, hk, h0⟩⟩
theorem backward_calls (w : World) : Calls Try.prog 194 #[.slice none 0 0] w fun e w' => e = .returned (.func (.func 218) #[] #[.pointer (some ⟨w.heap.size, 0, none⟩)]) ∧ w' = w.alloc (.cells #[.slice none 0 0] 95) := by
  go_enter Try.func194, Try.ntmps194
  go_wp2
  go_ret
  exact ⟨rfl, rfl⟩

set_option maxRecDepth 100000 in
set_option maxHeartbeats 2000000 in
theorem turn_calls (w : World) : Calls Try.prog 143 #[.slice none 0 0] w fun e w' => (∃ A c, e = .returned (.slice A 0 c)) ∧ Keeps None' w w' := by
  refine (callsIn_wide (n := 3)).1 ?_
  refine callsIn_of_wp_marks Try.func143 rfl trivial ?_ rfl
  simp only [Try.ntmps143, List.size_toArray, List.length_cons, List.length_nil, Nat.reduceAdd, Nat.reduceSub, Array.replicate_succ, Array.replicate_zero, List.push_toArray, List.append_toArray, List.nil_append, List.cons_append]
  obtain ⟨o0, hmk⟩ := mk0 w
  have hw1 : (((w.alloc o0).alloc (.cells #[.slice (some ⟨w.heap.size, 0, none⟩) 0 0] 95)).alloc (.cells #[.slice none 0 0] 95)).cell? ⟨w.heap.size + 1 + 1, 0, none⟩ = some (.slice none 0 0) := by
    have e : ((w.alloc o0).alloc (.cells #[.slice (some ⟨w.heap.size, 0, none⟩) 0 0] 95)).heap.size = w.heap.size + 1 + 1 := by simp
    rw [← e, World.cell?_alloc_new]; rfl
  have hc3 : (((w.alloc o0).alloc (.cells #[.slice (some ⟨w.heap.size, 0, none⟩) 0 0] 95)).alloc (.cells #[.slice none 0 0] 95)).cell? ⟨w.heap.size + 1, 0, none⟩ = some (.slice (some ⟨w.heap.size, 0, none⟩) 0 0) := by
    have e : (w.alloc o0).heap.size = w.heap.size + 1 := by simp
    have h1 : ((w.alloc o0).alloc (.cells #[.slice (some ⟨w.heap.size, 0, none⟩) 0 0] 95)).cell? ⟨w.heap.size + 1, 0, none⟩ = some (.slice (some ⟨w.heap.size, 0, none⟩) 0 0) := by
      rw [← e, World.cell?_alloc_new]; rfl
    exact (Keeps.alloc None' _ _).cell h1 (fun x => x)
  have hk3 : Keeps None' w (((w.alloc o0).alloc (.cells #[.slice (some ⟨w.heap.size, 0, none⟩) 0 0] 95)).alloc (.cells #[.slice none 0 0] 95)) := ((Keeps.alloc _ _ _).trans (Keeps.alloc _ _ _)).trans (Keeps.alloc _ _ _)
  gi_wp2_with (refine ⟨trivial, ?_⟩; gi_at_call 194; refine (callsIn_wide.2 (backward_calls _)).mono ?_; rintro e w' ⟨rfl, rfl⟩)
  refine range_law (gf := 218) (lb := #[.pointer (some ⟨w.heap.size + 1 + 1, 0, none⟩)]) (E := fun (_ : Unit) _ => False) (xs := []) (M := None') (by rfl) (fun args w => by simp [callFunc, Try.func218]; rfl)
    (back_iter (fun x => x) hw1) (fun _ _ h => h.elim) (fun _ _ _ => True) (fun _ _ _ _ => True) (fun _ _ _ _ _ _ _ _ => trivial) (fun _ _ _ _ _ _ _ _ _ => trivial) trivial ?_ ?_ ?_
  · intro n l nb k hk
    exact absurd hk (by simp)
  · intro D nb W hD hnb hnD hK _ hd
    have hcW := hK.cell hc3 (fun x => x)
    have hkW := hk3.trans hK
    have HH := Lib.hid hkW
    have hz3 := hk3.size
    clear hkW hK hk3 hnb hnD
    gi_wp2
    refine ⟨by simp, .inl ⟨_, _, rfl, run_takeDeferred hd, ?_⟩⟩
    exact ⟨_, results_tmp rfl _ _ _, ⟨_, _, rfl⟩, HH.out.over (Keeps.putObj (nb := Just D) _ _ _ rfl) (fun i hi e => by have := hz3; simp only [Just] at e; omega)⟩
  · intro D c nb k W _ _ _ hk
    exact absurd hk (by simp)
end Go.Proofs.Ythonibcfpojgpaa
