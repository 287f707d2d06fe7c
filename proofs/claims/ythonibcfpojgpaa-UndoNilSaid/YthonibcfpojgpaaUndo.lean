/-
  undo.Tree: what of it the example needs.
-/
import Derived.Test.YthonibcfpojgpaaQue3
namespace Go.Proofs.Ythonibcfpojgpaa
open Go Go.RowKit
set_option linter.unusedVariables false

/-- Block t is a tree of k states (block m: where each one lies). -/
structure TreeAt (w : World) (base t m q wm : Nat) (v : Value) (root here last : Int) (f : Int → Option Value) (k : Nat) (l : List Int) : Prop where
  box : w.heap[t]? = some (.cells #[.map (some m), .pointer (some ⟨q, 0, none⟩), .int .i64 root, .int .i64 here, .int .i64 last] 164 (0, 0))
  all : MapI w m f k
  que : QueAt w base q wm v l
  old : base ≤ t ∧ base ≤ m ∧ m ≠ wm
/-- Block s is a state. -/
structure StateAt (w : World) (base s : Nat) (parent : Int) (kv : Value) (ks : List Int) (next : Int) : Prop where
  box : w.heap[s]? = some (.cells #[.int .i64 parent, .slice none 0 0, kv, .int .i64 next] 159 (0, 0))
  own : (rInt .i64).Own 3 w base None' kv ks
  old : base ≤ s
def none1 : Value := .int .i64 (-1)
/-- Two slices share no block. -/
def Apart (u v : Value) : Prop := ∀ b, u.ownBlock = some b → v.ownBlock ≠ some b

section
variable {w w' : World} {base t m q wm s k : Nat} {v kv : Value} {root here last parent next : Int} {f : Int → Option Value} {l ks : List Int}
theorem StateAt.keep {nb : Nat → Prop} (h : StateAt w base s parent kv ks next) (hk : Keeps nb w w') (hn : ¬ nb s) (hv : ∀ b, kv.ownBlock = some b → ¬ nb b) : StateAt w' base s parent kv ks next := by
  refine ⟨hk.obj h.box hn, ?_, h.old⟩
  obtain ⟨_, cs, h1, h2⟩ := h.own
  have ho : (rInt .i64).Own 3 w base nb kv ks := ⟨hv, cs, h1, h2.imp fun _ _ hx => hx⟩
  exact (ho.keep hk).weak fun _ _ x => x.elim
theorem StateAt.heap (h : StateAt w base s parent kv ks next) (e : w'.heap = w.heap) : StateAt w' base s parent kv ks next := by
  obtain ⟨h0, cs, h1, h2⟩ := h.own
  exact ⟨by rw [e]; exact h.box, ⟨h0, cs, ownsRow_heap h1 e, h2⟩, h.old⟩
theorem TreeAt.heap (h : TreeAt w base t m q wm v root here last f k l) (e : w'.heap = w.heap) : TreeAt w' base t m q wm v root here last f k l :=
  ⟨by rw [e]; exact h.box, h.all.heap e, h.que.heap e, h.old⟩
theorem TreeAt.keep {nb : Nat → Prop} (h : TreeAt w base t m q wm v root here last f k l) (hk : Keeps nb w w') (h1 : ¬ nb t) (h2 : ¬ nb m) (h3 : ∀ b, nb b → ¬ QB q wm v b) : TreeAt w' base t m q wm v root here last f k l :=
  ⟨hk.obj h.box h1, h.all.keep hk h2, h.que.keep hk h3, h.old⟩
theorem TreeAt.cells (h : TreeAt w base t m q wm v root here last f k l) : t < w.heap.size ∧ w.cell? ⟨t, 0, none⟩ = some (.map (some m)) ∧ w.cell? ⟨t, 1, none⟩ = some (.pointer (some ⟨q, 0, none⟩)) ∧
    w.cell? ⟨t, 2, none⟩ = some (.int .i64 root) ∧ w.cell? ⟨t, 3, none⟩ = some (.int .i64 here) ∧ w.cell? ⟨t, 4, none⟩ = some (.int .i64 last) ∧ ∀ j, w.frozen? ⟨t, j, none⟩ = false :=
  ⟨lt_of_block h.box, by rw [cell_of_block h.box]; rfl, by rw [cell_of_block h.box]; rfl, by rw [cell_of_block h.box]; rfl, by rw [cell_of_block h.box]; rfl, by rw [cell_of_block h.box]; rfl, fun j => frozen_of_row w t j _ _ h.box⟩
theorem StateAt.cells (h : StateAt w base s parent kv ks next) : s < w.heap.size ∧ w.cell? ⟨s, 0, none⟩ = some (.int .i64 parent) ∧ w.cell? ⟨s, 1, none⟩ = some (.slice none 0 0) ∧
    w.cell? ⟨s, 2, none⟩ = some kv ∧ w.cell? ⟨s, 3, none⟩ = some (.int .i64 next) ∧ ∀ j, w.frozen? ⟨s, j, none⟩ = false :=
  ⟨lt_of_block h.box, by rw [cell_of_block h.box]; rfl, by rw [cell_of_block h.box]; rfl, by rw [cell_of_block h.box]; rfl, by rw [cell_of_block h.box]; rfl, fun j => frozen_of_row w s j _ _ h.box⟩
/-- Blocks of other kinds are other blocks. -/
theorem cells_ne {a b : Nat} {cs ds : Array Value} {E F : TypeId} (h : w.heap[a]? = some (.cells cs E (0, 0))) (h' : w.heap[b]? = some (.cells ds F (0, 0))) (hE : E ≠ F) : a ≠ b := by
  rintro rfl
  rw [h] at h'
  cases h'
  exact hE rfl
theorem map_ne {a b : Nat} {cs : Array Value} {E : TypeId} {g : Int → Option Value} {n : Nat} (h : w.heap[a]? = some (.cells cs E (0, 0))) (h' : MapI w b g n) : a ≠ b := by
  obtain ⟨es, clock, hb⟩ := h'.obj
  rintro rfl
  rw [h] at hb
  cases hb
theorem own_block {E : TypeId} {nb : Nat → Prop} (h : (rInt .i64).Own E w base nb v l) {b : Nat} (hb : v.ownBlock = some b) : ∃ cs, w.heap[b]? = some (.cells cs E (0, 0)) := by
  obtain ⟨_, cs, h1, _⟩ := h
  rcases h1.2 with ⟨rfl, _⟩ | ⟨g, cap, cur, rfl, _, hh, _⟩
  · cases hb
  · cases hb
    exact ⟨_, hh⟩
end

theorem QueAt.base {w : World} {base base' q wm : Nat} {v : Value} {l : List Int} (h : QueAt w base q wm v l) (hb : base' ≤ base) : QueAt w base' q wm v l := by
  obtain ⟨h0, cs, h1, h2⟩ := h.own
  refine ⟨h.box, ⟨h0, cs, ⟨h1.1, ?_⟩, h2⟩, h.map, Nat.le_trans hb h.old.1, Nat.le_trans hb h.old.2⟩
  rcases h1.2 with hx | ⟨g, cap, cur, hv, hg, r⟩
  · exact .inl hx
  · exact .inr ⟨g, cap, cur, hv, Nat.le_trans hb hg, r⟩
theorem block_new (w : World) (o : Obj) : (w.alloc o).heap[w.heap.size]? = some o := (MapKept.heap_alloc w o).1
set_option maxRecDepth 100000 in
set_option maxHeartbeats 400000 in
theorem unew_calls (w : World) : Calls Try.prog 23 #[] w fun e w' => ∃ t m q wm v s, e = .returned (.pointer (some ⟨t, 0, none⟩)) ∧
    TreeAt w' w.heap.size t m q wm v 0 0 0 (fun n => if n = 0 then some (.pointer (some ⟨s, 0, none⟩)) else none) 1 [0] ∧ StateAt w' w.heap.size s (-1) (.slice none 0 0) [] (-1) ∧ Keeps None' w w' := by
  go_enter Try.func23, Try.ntmps23
  have hmm := @run_makeMap Try.prog
  have hmi : MapI ((w.alloc (.map #[] 0)).alloc (.cells #[.int .i64 (-1), .slice none 0 0, .slice none 0 0, .int .i64 (-1)] 159)) w.heap.size (fun _ => none) 0 := (MapI.made w).keep (Keeps.alloc None' _ _) (fun x => x)
  obtain ⟨w1, hrun, hm1, hk1⟩ := hmi.store uMapAll (by simp [maxLen]) (n := 0) (by decide) (.pointer (some ⟨w.heap.size + 1, 0, none⟩))
  have hs0 : ((w.alloc (.map #[] 0)).alloc (.cells #[.int .i64 (-1), .slice none 0 0, .slice none 0 0, .int .i64 (-1)] 159)).heap[w.heap.size + 1]? = some (.cells #[.int .i64 (-1), .slice none 0 0, .slice none 0 0, .int .i64 (-1)] 159 (0, 0)) := by
    have := (MapKept.heap_alloc (w.alloc (.map #[] 0)) (.cells #[.int .i64 (-1), .slice none 0 0, .slice none 0 0, .int .i64 (-1)] 159)).1
    simpa using this
  have hs1 := hk1.obj hs0 (fun x => by simp only [Just] at x; omega)
  have hz1 := hk1.size
  simp only [World.size_alloc] at hz1
  have hkw : Keeps None' w w1 := ((Keeps.alloc None' w _).trans (Keeps.alloc None' _ _)).over hk1 (fun i hi x => by simp only [Just] at x; omega)
  have HH := Lib.hid (And.intro hmi (And.intro hm1 (And.intro hk1 (And.intro hs0 (And.intro hs1 hkw)))))
  clear hmi hm1 hk1 hs0 hs1 hkw
  have hg1 : w1.heap.size < (w1.alloc (.cells #[.int .i64 0] 3)).heap.size := by simp
  have hc1 : (w1.alloc (.cells #[.int .i64 0] 3)).cell? ⟨w1.heap.size, 0, none⟩ = some (.int .i64 0) := by rw [World.cell?_alloc_new]; rfl
  go_wp2_with (first
    | (go_at_call 71; go_must (refine (lnew_calls (by decide) hg1 hc1).mono ?_; rintro e2 w2 ⟨q, wm, v, rfl, hq2, hk2⟩)))
  go_ret
  obtain ⟨hmi, hm1, hk1, hs0, hs1, hkw⟩ := HH.out
  have ka : Keeps None' w1 w2 := (Keeps.alloc None' w1 _).trans hk2
  have hz2 := hk2.size
  simp only [World.size_alloc] at hz2
  have kt : ∀ o, Keeps None' w2 (w2.alloc o) := fun o => Keeps.alloc None' w2 o
  have hwm := hq2.old.2
  simp only [World.size_alloc] at hwm
  refine ⟨w2.heap.size, w.heap.size, q, wm, v, w.heap.size + 1, rfl, ⟨block_new _ _, ?_, (hq2.base (by simp; omega)).keep (kt _) (fun b x => x.elim), by omega, by omega, by omega⟩, ⟨?_, ?_, by omega⟩, (hkw.trans ka).trans (kt _)⟩
  · exact ((hm1.keep ka (fun x => x)).keep (kt _) (fun x => x)).to (fun n => rfl) rfl
  · exact (kt _).obj (ka.obj hs1 (fun x => x)) (fun x => x)
  · exact Rp.Own.nil _ _ _ _ _
end Go.Proofs.Ythonibcfpojgpaa
