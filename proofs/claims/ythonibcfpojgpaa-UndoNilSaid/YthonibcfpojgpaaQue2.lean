/-
  leaf.Queue: Put and Drop where nothing is to be moved.
-/
import Derived.Test.YthonibcfpojgpaaQue
import Derived.BigQuiet
namespace Go.Proofs.Ythonibcfpojgpaa
open Go Go.RowKit
set_option linter.unusedVariables false

@[go_sem] theorem meLen (q : Nat) (w : World) : (method 461 243 (.pointer (some ⟨q, 0, none⟩)) "Len").run Try.prog w = .ok (255, .pointer (some ⟨q, 0, none⟩)) w := by kernel_rfl
@[go_sem] theorem meLess (q : Nat) (w : World) : (method 461 243 (.pointer (some ⟨q, 0, none⟩)) "Less").run Try.prog w = .ok (256, .pointer (some ⟨q, 0, none⟩)) w := by kernel_rfl
@[go_sem] theorem meSwap (q : Nat) (w : World) : (method 461 243 (.pointer (some ⟨q, 0, none⟩)) "Swap").run Try.prog w = .ok (259, .pointer (some ⟨q, 0, none⟩)) w := by kernel_rfl
@[go_sem] theorem mePush (q : Nat) (w : World) : (method 461 243 (.pointer (some ⟨q, 0, none⟩)) "Push").run Try.prog w = .ok (258, .pointer (some ⟨q, 0, none⟩)) w := by kernel_rfl
@[go_sem] theorem mePop (q : Nat) (w : World) : (method 461 243 (.pointer (some ⟨q, 0, none⟩)) "Pop").run Try.prog w = .ok (257, .pointer (some ⟨q, 0, none⟩)) w := by kernel_rfl

theorem up0_calls {w : World} {q : Nat} : Calls Try.prog 177 #[.iface 243 (.pointer (some ⟨q, 0, none⟩)), .int .i64 0] w fun e w' => e = .returned (.tuple #[]) ∧ w' = w := by
  go_enter Try.func177, Try.ntmps177
  go_wp2
  refine wp_loop_rounds 1 ?_
  rw [rounds_succ]
  go_wp2
  go_end0
  exact ⟨rfl, rfl⟩
set_option maxRecDepth 100000 in
theorem up1_calls {w : World} {base q wm : Nat} {v : Value} {a b : Int} (h : QueAt w base q wm v [a, b]) (hab : a ≤ b) :
    Calls Try.prog 177 #[.iface 243 (.pointer (some ⟨q, 0, none⟩)), .int .i64 1] w fun e w' => e = .returned (.tuple #[]) ∧ ∃ k, w' = w.drewN k := by
  obtain ⟨hq, c0, c1, z0, z1⟩ := h.cells
  obtain ⟨g, c, rfl, hgb, hgs, hlc, hcm, hcell, hz⟩ := own_cell h.own (by simp)
  have x0 := hcell 0 (by simp)
  have x1 := hcell 1 (by simp)
  simp only [List.getElem_cons_zero, List.getElem_cons_succ, List.length_cons, List.length_nil, Nat.zero_add, Nat.reduceAdd] at x0 x1 c0 hlc
  clear hcell h
  unfold maxLen at hcm
  go_enter Try.func177, Try.ntmps177
  go_wp2
  refine wp_loop_rounds 1 ?_
  rw [rounds_succ]
  go_wp2
  have hlt : decide (b < a) = false := by simp; omega
  go_quiet (fail)
  go_wp2
  go_end0
  exact ⟨rfl, _, rfl⟩

set_option maxRecDepth 100000 in
set_option maxHeartbeats 400000 in
theorem has_calls {w : World} {base q wm : Nat} {v : Value} {l : List Int} {n : Int} (h : QueAt w base q wm v l) (hw : (ik n).wf = true) :
    Calls Try.prog 134 #[.pointer (some ⟨q, 0, none⟩), .int .i64 n] w (Ret (.bool (decide (n ∈ l))) w) := by
  obtain ⟨hq, c0, c1, z0, z1⟩ := h.cells
  have hlook : ∃ u : Int, (Instr.lookup 237 (.map (some wm)) (.int .i64 n) true).run Try.prog w = .ok (.tuple #[.agg #[.int .i64 u], .bool (decide (n ∈ l))]) w := by
    by_cases hn : n ∈ l
    · exact ⟨_, by rw [decide_eq_true hn]; exact (h.map.yes uMapWhere (zPlace w) hw (v := .agg #[.int .i64 (l.idxOf n)]) (by simp [place, hn])).2⟩
    · exact ⟨_, by rw [decide_eq_false hn]; exact (h.map.no uMapWhere (zPlace w) hw (by simp [place, hn])).2⟩
  obtain ⟨u, hlook⟩ := hlook
  generalize decide (n ∈ l) = d at *
  clear h
  go_enter Try.func134, Try.ntmps134
  go_wp2
  go_ret
  exact Ret.mk rfl ((Below.refl _ w).alloc (Nat.le_refl _) _)

theorem plen_calls {w : World} {q n c : Nat} {A : Option Addr} (c0 : w.cell? ⟨q, 0, none⟩ = some (.slice A n c)) :
    Calls Try.prog 255 #[.pointer (some ⟨q, 0, none⟩)] w fun e w' => e = .returned (.int .i64 n) ∧ w' = w := by
  go_enter Try.func255, Try.ntmps255
  go_wp2
  go_ret
  exact ⟨rfl, rfl⟩
set_option maxRecDepth 100000 in
set_option maxHeartbeats 400000 in
/-- heap.Push of a number that need not rise. -/
theorem hpush_calls {w : World} {base q wm : Nat} {v : Value} {l : List Int} {n : Int} (h : QueAt w base q wm v l) (hn : n ∉ l) (hw : (ik n).wf = true) (hb : base ≤ w.heap.size) (hl : l = [] ∨ ∃ a, l = [a] ∧ a ≤ n) :
    Calls Try.prog 136 #[.iface 243 (.pointer (some ⟨q, 0, none⟩)), .iface 3 (.int .i64 n)] w fun e w' => e = .returned (.tuple #[]) ∧ ∃ v', QueAt w' base q wm v' (l ++ [n]) ∧ Keeps (QB q wm v) w w' ∧ Moved w v v' := by
  go_enter Try.func136, Try.ntmps136
  rcases hl with rfl | ⟨a, rfl, han⟩
  · go_wp2_with (first
      | (go_at_call 258; go_must (refine (push_calls h hn hw (by simp) hb).mono ?_; rintro e2 w2 ⟨rfl, v2, h2, k2, m2⟩; obtain ⟨hq2, d0, d1, y0, y1⟩ := h2.cells; obtain ⟨A2, c2, rfl, hc2, hm2⟩ := h2.own.shape; simp only [List.nil_append, List.length_cons, List.length_nil, Nat.zero_add] at d0 hc2))
      | (go_at_call 255; go_must (refine (plen_calls d0).mono ?_; rintro e4 w4 ⟨rfl, rfl⟩))
      | (go_at_call 177; go_must (refine up0_calls.mono ?_; rintro e3 w3 ⟨rfl, rfl⟩)))
    go_end0
    exact ⟨rfl, _, h2, k2, m2⟩
  · go_wp2_with (first
      | (go_at_call 258; go_must (refine (push_calls h hn hw (by simp) hb).mono ?_; rintro e2 w2 ⟨rfl, v2, h2, k2, m2⟩; obtain ⟨hq2, d0, d1, y0, y1⟩ := h2.cells; obtain ⟨A2, c2, rfl, hc2, hm2⟩ := h2.own.shape; simp only [List.cons_append, List.nil_append, List.length_cons, List.length_nil, Nat.zero_add, Nat.reduceAdd] at d0 hc2))
      | (go_at_call 255; go_must (refine (plen_calls d0).mono ?_; rintro e4 w4 ⟨rfl, rfl⟩))
      | (go_at_call 177; go_must (refine (up1_calls h2 han).mono ?_; rintro e3 w3 ⟨rfl, k3, rfl⟩)))
    go_end0
    exact ⟨rfl, _, h2.heap rfl, k2.trans (Keeps.drewN _ _ _), m2⟩

theorem qMapNil (w : World) (r : Option Nat) : (binOp .eql 237 (.map r) (.map none)).run Try.prog w = .ok (.bool r.isNone) w := run_eql_map_nil w _ _ _ r uMapWhere
set_option maxRecDepth 100000 in
set_option maxHeartbeats 400000 in
/-- Put of a number that has not waited, where it need not rise. -/
theorem put_calls {w : World} {base q wm : Nat} {v : Value} {l : List Int} {n : Int} (h : QueAt w base q wm v l) (hn : n ∉ l) (hw : (ik n).wf = true) (hb : base ≤ w.heap.size) (hl : l = [] ∨ ∃ a, l = [a] ∧ a ≤ n) :
    Calls Try.prog 73 #[.pointer (some ⟨q, 0, none⟩), .int .i64 n] w fun e w' => e = .returned (.bool true) ∧ ∃ v', QueAt w' base q wm v' (l ++ [n]) ∧ Keeps (QB q wm v) w w' ∧ Moved w v v' := by
  obtain ⟨hq, c0, c1, z0, z1⟩ := h.cells
  have qm := qMapNil
  go_enter Try.func73, Try.ntmps73
  go_wp2_with (first
    | (go_at_call 134; go_must (refine (has_calls h hw).mono ?_; rintro e1 w1 ⟨rfl, hb1⟩; have h1 := h.keep (Keeps.below (nb := None') hb1) (fun b x => x.elim); obtain ⟨hq, c0, c1, z0, z1⟩ := h1.cells; rw [decide_eq_false hn]))
    | (go_at_call 136; go_must (refine (hpush_calls h1 hn hw (Nat.le_trans hb hb1.size) hl).mono ?_; rintro e2 w2 ⟨rfl, v2, h2, k2, m2⟩)))
  go_ret
  exact ⟨rfl, _, h2, (Keeps.below hb1).trans k2, m2.imp id fun ⟨b, e, hle⟩ => ⟨b, e, Nat.le_trans hb1.size hle⟩⟩
end Go.Proofs.Ythonibcfpojgpaa
