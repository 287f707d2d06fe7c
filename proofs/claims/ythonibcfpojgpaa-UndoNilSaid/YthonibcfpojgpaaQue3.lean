/-
  leaf.Queue: Drop of the only number, or of one that does not wait; New.
-/
import Derived.Test.YthonibcfpojgpaaQue2
namespace Go.Proofs.Ythonibcfpojgpaa
open Go Go.RowKit
set_option linter.unusedVariables false

@[go_sem] theorem fieldPlace (x : Int) (w : World) : (Instr.field 245 (.agg #[.int .i64 x]) 0).run Try.prog w = .ok (.int .i64 x) w := by kernel_rfl
set_option maxRecDepth 100000 in
set_option maxHeartbeats 400000 in
theorem hremove_calls {w : World} {base q wm : Nat} {v : Value} {n : Int} (h : QueAt w base q wm v [n]) (hw : (ik n).wf = true) :
    Calls Try.prog 135 #[.iface 243 (.pointer (some ⟨q, 0, none⟩)), .int .i64 0] w fun e w' => e = .returned (.iface 3 (.int .i64 n)) ∧ ∃ v', QueAt w' base q wm v' [] ∧ Keeps (QB q wm v) w w' ∧ v'.ownBlock = v.ownBlock := by
  have h0 := h
  obtain ⟨hq, c0, c1, z0, z1⟩ := h.cells
  obtain ⟨A, c, rfl, hlc, hcm⟩ := h.own.shape
  simp only [List.length_cons, List.length_nil, Nat.zero_add] at c0
  go_enter Try.func135, Try.ntmps135
  go_wp2_with (first
      | (go_at_call 255; go_must (refine (plen_calls c0).mono ?_; rintro e4 w4 ⟨rfl, rfl⟩))
      | (go_at_call 257; go_must (refine (pop_calls (l := []) h0 (by simp) hw (by simp)).mono ?_; rintro e5 w5 ⟨rfl, v5, h5, k5, m5⟩)))
  go_ret
  exact ⟨rfl, _, h5, k5, m5⟩

theorem drop_no {w : World} {base q wm : Nat} {v : Value} {l : List Int} {n : Int} (h : QueAt w base q wm v l) (hn : n ∉ l) (hw : (ik n).wf = true) :
    Calls Try.prog 72 #[.pointer (some ⟨q, 0, none⟩), .int .i64 n] w (Ret (.bool false) w) := by
  go_enter Try.func72, Try.ntmps72
  go_wp2_with (first
    | (go_at_call 134; go_must (refine (has_calls h hw).mono ?_; rintro e1 w1 ⟨rfl, hb1⟩; rw [decide_eq_false hn])))
  go_ret
  exact Ret.mk rfl hb1

set_option maxRecDepth 100000 in
set_option maxHeartbeats 400000 in
theorem drop_one {w : World} {base q wm : Nat} {v : Value} {n : Int} (h : QueAt w base q wm v [n]) (hw : (ik n).wf = true) :
    Calls Try.prog 72 #[.pointer (some ⟨q, 0, none⟩), .int .i64 n] w fun e w' => e = .returned (.bool true) ∧ ∃ v', QueAt w' base q wm v' [] ∧ Keeps (QB q wm v) w w' ∧ v'.ownBlock = v.ownBlock := by
  go_enter Try.func72, Try.ntmps72
  go_wp2_with (first
    | (go_at_call 134; go_must (refine (has_calls h hw).mono ?_; rintro e1 w1 ⟨rfl, hb1⟩; rw [decide_eq_true (List.mem_singleton.2 rfl)])))
  have h1 := h.keep (Keeps.below (nb := None') hb1) (fun b x => x.elim)
  obtain ⟨hq, c0, c1, z0, z1⟩ := h1.cells
  have hlook := ((h1.heap (w' := w1.drew) rfl).map.yes uMapWhere (zPlace _) hw (v := .agg #[.int .i64 0]) (by simp [place])).1
  refine region_tail 12 (by kernel_rfl) (by kernel_rfl) ?_
  simp only [List.take_succ_cons, List.take_zero, List.drop_succ_cons, List.drop_zero]
  repeat still_step
  refine wpStill_nil ?_
  go_wp2_with (first
    | (go_at_call 135; go_must (refine (hremove_calls (w := w1.drew) (h1.heap (w' := w1.drew) rfl) hw).mono ?_; rintro e5 w5 ⟨rfl, v5, h5, k5, m5⟩)))
  go_ret
  exact ⟨rfl, _, h5, ((Keeps.below hb1).trans (Keeps.drew _ _)).trans k5, m5⟩

set_option maxRecDepth 100000 in
set_option maxHeartbeats 400000 in
/-- leaf.New with one number. -/
theorem lnew_calls {w : World} {g : Nat} {n : Int} (hw : (ik n).wf = true) (hg : g < w.heap.size) (hc : w.cell? ⟨g, 0, none⟩ = some (.int .i64 n)) :
    Calls Try.prog 71 #[.slice (some ⟨g, 0, none⟩) 1 1] w fun e w' => ∃ q wm v, e = .returned (.pointer (some ⟨q, 0, none⟩)) ∧ QueAt w' w.heap.size q wm v [n] ∧ Keeps None' w w' := by
  go_enter Try.func71, Try.ntmps71
  have hmm := @run_makeMap Try.prog
  go_wp2
  have hq0 : QueAt ((w.alloc (.map #[] 0)).alloc (.cells #[.slice none 0 0, .map (some w.heap.size)] 241)) w.heap.size (w.heap.size + 1) w.heap.size (.slice none 0 0) [] := by
    refine ⟨?_, Rp.Own.nil _ _ _ _ _, ((MapI.made w).keep (Keeps.alloc None' _ _) (fun x => x)).to (fun n => by simp [place]) rfl, by omega, by omega⟩
    have := (MapKept.heap_alloc (w.alloc (.map #[] 0)) (.cells #[.slice none 0 0, .map (some w.heap.size)] 241)).1
    simpa using this
  generalize hW : (w.alloc (.map #[] 0)).alloc (.cells #[.slice none 0 0, .map (some w.heap.size)] 241) = W at *
  have hkW : Keeps None' w W := hW ▸ ((Keeps.alloc _ w _).trans (Keeps.alloc _ _ _))
  have hcW := hkW.cell hc (fun x => x)
  have hgW : g < W.heap.size := Nat.lt_of_lt_of_le hg hkW.size
  have HW := Lib.hid hkW
  have hbW := hkW.size
  clear hW hkW hc
  refine wp_loop_rounds 2 ?_
  rw [rounds_succ]
  go_wp2_with (first
    | (go_at_call 73; go_must (refine (put_calls hq0 (by simp) hw hbW (.inl rfl)).mono ?_; rintro e5 w5 ⟨rfl, v5, h5, k5, m5⟩)))
  rw [rounds_succ]
  go_wp2
  go_ret
  refine ⟨_, _, v5, rfl, h5, HW.out.over k5 fun b hb x => ?_⟩
  have := (hq0.blocks x).1
  omega
end Go.Proofs.Ythonibcfpojgpaa
