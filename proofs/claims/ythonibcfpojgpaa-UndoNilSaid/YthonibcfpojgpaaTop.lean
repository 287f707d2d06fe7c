/-
  The topmost frame; the next leaf; the leaf ahead.
-/
import Derived.Test.YthonibcfpojgpaaDown
import Derived.Deep.QuietTactic
import Derived.BigQuiet
import Derived.IntWalk
import Derived.WalkSmall
namespace Go.Proofs.Ythonibcfpojgpaa
open Go Go.RowKit
set_option linter.unusedVariables false

theorem StackAt.slice {w : World} {base sb : Nat} {v : Value} {fs : List Fx} (h : StackAt w base sb v fs) (hne : fs ≠ []) :
    ∃ g c, v = .slice (some ⟨g, 0, none⟩) fs.length c ∧ base ≤ g ∧ g < w.heap.size ∧ fs.length ≤ c ∧ c ≤ maxLen ∧ g ≠ sb ∧
      ∀ i (hi : i < fs.length), w.cell? ⟨g, i * 3, none⟩ = some (.pointer (some ⟨fs[i].p, 0, none⟩)) ∧ w.cell? ⟨g, i * 3 + 1, none⟩ = some (.int .i64 fs[i].first) ∧ w.cell? ⟨g, i * 3 + 2, none⟩ = some (.int .i64 fs[i].next) ∧
        ∀ j, w.frozen? ⟨g, j, none⟩ = false := by
  obtain ⟨h0, cs, h1, h2⟩ := h.own
  rcases h1.2 with ⟨rfl, hn⟩ | ⟨g, cap, cur, rfl, hb, hh, h3, h4, h5, h6⟩
  · exact absurd (List.eq_nil_of_length_eq_zero hn) hne
  · refine ⟨g, cap, rfl, hb, lt_of_block hh, h3, h4, fun e => h0 g rfl e, fun i hi => ?_⟩
    obtain ⟨c, hcl, hr, hc⟩ := h2.chunk hi
    simp only [rFx, Rp.flat] at hr
    subst hr
    have hcell : ∀ j u, (Fx.vals fs[i])[j]? = some u → w.cell? ⟨g, i * 3 + j, none⟩ = some u := fun j u hu => by
      have h7 := hc j u hu
      rw [← h6, List.getElem?_take] at h7
      split at h7
      · rw [cell_of_block hh]
        exact (show cur[i * rFx.sz + j]? = some u from by rw [← Array.getElem?_toList]; exact h7)
      · cases h7
    exact ⟨hcell 0 _ rfl, hcell 1 _ rfl, hcell 2 _ rfl, fun j => frozen_of_row w g j cur _ hh⟩

theorem StackAt.topCells {w : World} {base sb : Nat} {v : Value} {fi : List Fx} {f : Fx} (h : StackAt w base sb v (fi ++ [f])) :
    ∃ g c, v = .slice (some ⟨g, 0, none⟩) (fi.length + 1) c ∧ base ≤ g ∧ g < w.heap.size ∧ fi.length + 1 ≤ c ∧ c ≤ maxLen ∧ g ≠ sb ∧
      w.cell? ⟨g, fi.length * 3, none⟩ = some (.pointer (some ⟨f.p, 0, none⟩)) ∧ w.cell? ⟨g, fi.length * 3 + 1, none⟩ = some (.int .i64 f.first) ∧ w.cell? ⟨g, fi.length * 3 + 2, none⟩ = some (.int .i64 f.next) ∧
        ∀ j, w.frozen? ⟨g, j, none⟩ = false := by
  obtain ⟨g, c, hv, h1, h2, h3, h4, h5, h6⟩ := h.slice (by simp)
  have hln : (fi ++ [f]).length = fi.length + 1 := by simp
  obtain ⟨h7, h8, h9, h10⟩ := h6 fi.length (by omega)
  have hget : (fi ++ [f])[fi.length]'(by omega) = f := by simp
  rw [hget] at h7 h8 h9
  exact ⟨g, c, by rw [hv, hln], h1, h2, by omega, h4, h5, h7, h8, h9, h10⟩
theorem repsVals (w : World) (nb : Nat → Prop) (xs : List Fx) : Reps (rFx.r w nb) rFx.sz xs (xs.flatMap Fx.vals) := Reps.flatMap (f := Fx.vals) (sz := 3) (R := fun x c => c = Fx.vals x) (fun _ => rfl) (fun _ => rfl) xs
theorem reps_vals {w : World} {nb : Nat → Prop} : ∀ {xs : List Fx} {cs : List Value}, Reps (rFx.r w nb) rFx.sz xs cs → cs = xs.flatMap Fx.vals
  | [], cs, h => List.eq_nil_of_length_eq_zero (by simpa using h.1)
  | x :: xs, cs, h => by
    have h0 := h.2 0 x rfl
    have h1 := reps_vals (xs := xs) (h.drop 1)
    simp only [Nat.zero_mul, List.drop_zero] at h0
    simp only [Nat.one_mul] at h1
    rw [List.flatMap_cons, ← h1, ← (show cs.take rFx.sz = Fx.vals x from h0), List.take_append_drop]
theorem len_vals (xs : List Fx) : (xs.flatMap Fx.vals).length = xs.length * 3 := by
  induction xs with
  | nil => rfl
  | cons x xs ih => rw [List.flatMap_cons, List.length_append, ih, List.length_cons]; simp [Fx.vals]; omega
/-- The topmost frame's numbers, written anew. -/
theorem StackAt.setTop {w : World} {base sb g c m : Nat} {fi : List Fx} {f : Fx} (h : StackAt w base sb (.slice (some ⟨g, 0, none⟩) (m + 1) c) (fi ++ [f])) (hm : fi.length = m) (first next : Nat) :
    StackAt ((w.setCell ⟨g, m * 3 + 1, none⟩ (.int .i64 first)).setCell ⟨g, m * 3 + 2, none⟩ (.int .i64 next)) base sb (.slice (some ⟨g, 0, none⟩) (m + 1) c) (fi ++ [⟨f.t, f.p, first, next⟩]) ∧
      Keeps (fun b => b = g) w ((w.setCell ⟨g, m * 3 + 1, none⟩ (.int .i64 first)).setCell ⟨g, m * 3 + 2, none⟩ (.int .i64 next)) := by
  have hk : Keeps (fun b => b = g) w ((w.setCell ⟨g, m * 3 + 1, none⟩ (.int .i64 first)).setCell ⟨g, m * 3 + 2, none⟩ (.int .i64 next)) := (Keeps.setCell (nb := fun b => b = g) w ⟨g, m * 3 + 1, none⟩ _ rfl).trans (Keeps.setCell (nb := fun b => b = g) _ ⟨g, m * 3 + 2, none⟩ _ rfl)
  obtain ⟨h0, cs, h1, h2⟩ := h.own
  have hgs : g ≠ sb := fun e => h0 g rfl e
  have hcs := reps_vals h2
  have hl : (fi ++ [f]).length = m + 1 := by simp [hm]
  have hl' : (fi ++ [(⟨f.t, f.p, first, next⟩ : Fx)]).length = m + 1 := by simp [hm]
  rw [hl] at h1
  refine ⟨⟨hk.obj h.box (fun e => hgs e.symm), h.from_, h0, (fi ++ [(⟨f.t, f.p, first, next⟩ : Fx)]).flatMap Fx.vals, ?_, repsVals _ _ _⟩, hk⟩
  have h3 := (((h1.stored (m * 3 + 1) (.int .i64 first)).1).stored (m * 3 + 2) (.int .i64 next)).1
  rw [hl']
  have he : (cs.set (m * 3 + 1) (.int .i64 first)).set (m * 3 + 2) (.int .i64 next) = (fi ++ [(⟨f.t, f.p, first, next⟩ : Fx)]).flatMap Fx.vals := by
    rw [hcs, List.flatMap_append, List.flatMap_append]
    have hlen := len_vals fi
    rw [hm] at hlen
    rw [List.set_append_right _ _ (by omega), List.set_append_right _ _ (by omega), hlen, show m * 3 + 1 - m * 3 = 1 from by omega, show m * 3 + 2 - m * 3 = 2 from by omega]
    rfl
  rw [he] at h3
  exact h3
/-- The topmost frame's number of the next thing, written anew. -/
theorem StackAt.setNext {w : World} {base sb g c m : Nat} {fi : List Fx} {f : Fx} (h : StackAt w base sb (.slice (some ⟨g, 0, none⟩) (m + 1) c) (fi ++ [f])) (hm : fi.length = m) (next : Nat) :
    StackAt (w.setCell ⟨g, m * 3 + 2, none⟩ (.int .i64 next)) base sb (.slice (some ⟨g, 0, none⟩) (m + 1) c) (fi ++ [⟨f.t, f.p, f.first, next⟩]) ∧
      Keeps (fun b => b = g) w (w.setCell ⟨g, m * 3 + 2, none⟩ (.int .i64 next)) := by
  have hk : Keeps (fun b => b = g) w (w.setCell ⟨g, m * 3 + 2, none⟩ (.int .i64 next)) := Keeps.setCell (nb := fun b => b = g) _ ⟨g, m * 3 + 2, none⟩ _ rfl
  obtain ⟨h0, cs, h1, h2⟩ := h.own
  have hgs : g ≠ sb := fun e => h0 g rfl e
  have hcs := reps_vals h2
  have hl : (fi ++ [f]).length = m + 1 := by simp [hm]
  have hl' : (fi ++ [(⟨f.t, f.p, f.first, next⟩ : Fx)]).length = m + 1 := by simp [hm]
  rw [hl] at h1
  refine ⟨⟨hk.obj h.box (fun e => hgs e.symm), h.from_, h0, (fi ++ [(⟨f.t, f.p, f.first, next⟩ : Fx)]).flatMap Fx.vals, ?_, repsVals _ _ _⟩, hk⟩
  have h3 := (h1.stored (m * 3 + 2) (.int .i64 next)).1
  rw [hl']
  have he : cs.set (m * 3 + 2) (.int .i64 next) = (fi ++ [(⟨f.t, f.p, f.first, next⟩ : Fx)]).flatMap Fx.vals := by
    rw [hcs, List.flatMap_append, List.flatMap_append]
    have hlen := len_vals fi
    rw [hm] at hlen
    rw [List.set_append_right _ _ (by omega), hlen, show m * 3 + 2 - m * 3 = 2 from by omega]
    rfl
  rw [he] at h3
  exact h3
/-- The topmost frame taken off. -/
theorem StackAt.pop {w : World} {base sb g c m : Nat} {fi : List Fx} {f : Fx} (h : StackAt w base sb (.slice (some ⟨g, 0, none⟩) (m + 1) c) (fi ++ [f])) (hm : fi.length = m) :
    StackAt (w.setCell ⟨sb, 0, none⟩ (.slice (some ⟨g, 0, none⟩) m c)) base sb (.slice (some ⟨g, 0, none⟩) m c) fi := by
  obtain ⟨h0, cs, h1, h2⟩ := h.own
  have hcs := reps_vals h2
  have hl : (fi ++ [f]).length = m + 1 := by simp [hm]
  rw [hl, hcs, List.flatMap_append] at h1
  have h3 := ownsRow_pop (n := m) (size := 3) (by rw [len_vals, hm]) h1
  refine ⟨one_setCell h.box, h.from_, Rp.Own.keep ⟨fun b hb => h0 b (by simpa [Value.ownBlock] using hb), fi.flatMap Fx.vals, by rw [hm]; exact h3, repsVals _ _ _⟩ (Keeps.setCell w ⟨sb, 0, none⟩ _ rfl)⟩

set_option maxHeartbeats 400000 in
theorem top_calls (sb g m c : Nat) (w : World) (hc : m + 1 ≤ c) (hm : c ≤ maxLen) (hs : w.cell? ⟨sb, 0, none⟩ = some (.slice (some ⟨g, 0, none⟩) (m + 1) c)) :
    Calls Try.prog 118 #[.pointer (some ⟨sb, 0, none⟩)] w fun e w' => e = .returned (.pointer (some ⟨g, m * 3, none⟩)) ∧ ∃ k, w' = w.drewN k := by
  unfold maxLen at hm
  go_enter Try.func118, Try.ntmps118
  go_wp2
  go_quiet (fail)
  go_wp2
  go_ret
  exact ⟨rfl, nq, rfl⟩
end Go.Proofs.Ythonibcfpojgpaa
