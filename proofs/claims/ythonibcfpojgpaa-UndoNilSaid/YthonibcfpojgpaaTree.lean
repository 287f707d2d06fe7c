/-
  Plain facts on trees of rows, and on the frames by which they are gone through.
-/
import Derived.Test.YthonibcfpojgpaaData
namespace Go.Proofs.Ythonibcfpojgpaa
open Go Go.RowKit

def big : Nat := 1099511627776
theorem big_eq : big = 1099511627776 := rfl

theorem lists_append (a b : List Tr) : Tr.lists (a ++ b) = Tr.lists a ++ Tr.lists b := by
  induction a with
  | nil => simp [Tr.lists]
  | cons t ts ih => simp [Tr.lists, ih]
theorem lists_split (ks : List Tr) (k : Nat) : Tr.lists ks = Tr.lists (ks.take k) ++ Tr.lists (ks.drop k) := by
  rw [← lists_append, List.take_append_drop]
theorem lists_drop (ks : List Tr) (k : Nat) (h : k < ks.length) : Tr.lists (ks.drop k) = ks[k].list ++ Tr.lists (ks.drop (k + 1)) := by
  rw [List.drop_eq_getElem_cons h, Tr.lists]
theorem lists_take (ks : List Tr) (k : Nat) (h : k < ks.length) : Tr.lists (ks.take (k + 1)) = Tr.lists (ks.take k) ++ ks[k].list := by
  rw [List.take_succ_eq_append_getElem h, lists_append]; simp [Tr.lists]
theorem list_node (ks : List Tr) : (Tr.node ks).list = Tr.lists ks := by simp [Tr.list]
theorem list_leaf (l : List Rw) : (Tr.leaf l).list = l := by simp [Tr.list]

theorem fit_pos : ∀ (h : Nat) (t : Tr), t.fit h → 0 < t.list.length
  | 0, .leaf l, hf => by
    rw [list_leaf]; simp only [Tr.fit] at hf
    exact List.length_pos_iff.2 hf
  | h + 1, .node ks, hf => by
    simp only [Tr.fit] at hf
    have h0 : 0 < ks.length := by omega
    have := fit_pos h ks[0] (hf.2 _ (List.getElem_mem h0))
    have h2 := lists_drop ks 0 h0
    rw [List.drop_zero] at h2
    rw [list_node, h2, List.length_append]
    omega
  | 0, .node ks, hf => by simp [Tr.fit] at hf
  | h + 1, .leaf l, hf => by simp [Tr.fit] at hf

/-! ### frames -/
structure Fx where
  t : Tr
  p : Nat
  first : Nat
  next : Nat
def Fx.vals (f : Fx) : List Value := [.pointer (some ⟨f.p, 0, none⟩), .int .i64 f.first, .int .i64 f.next]
def rFx : Rp Fx := Rp.flat 3 Fx.vals (fun _ => rfl) (fun _ u hu => by simp [Fx.vals] at hu; rcases hu with rfl | rfl | rfl <;> rfl)
/-- What is still to come behind a frame: of a leaf the things from next on, of an inner node what is in the kids behind next. -/
def Fx.rest (f : Fx) : List Rw :=
  match f.t with
  | .leaf l => l.drop f.next
  | .node ks => Tr.lists (ks.drop (f.next + 1))
/-- What has come ahead of a frame. -/
def Fx.done (f : Fx) : List Rw :=
  match f.t with
  | .leaf l => l.take (f.next + 1)
  | .node ks => Tr.lists (ks.take f.next)
/-- Frames, the root's first: what is still to come. -/
def rem : List Fx → List Rw
  | [] => []
  | f :: fs => rem fs ++ f.rest
def pas : List Fx → List Rw
  | [] => []
  | f :: fs => f.done ++ pas fs
theorem rem_append (a b : List Fx) : rem (a ++ b) = rem b ++ rem a := by
  induction a with
  | nil => simp [rem]
  | cons f fs ih => simp [rem, ih]
theorem pas_append (a b : List Fx) : pas (a ++ b) = pas a ++ pas b := by
  induction a with
  | nil => simp [pas]
  | cons f fs ih => simp [pas, ih]
/-- An inner node's frame: its kid next is below it; the numbers are what they say. -/
def Fx.inner (w0 : World) (M : Nat → Prop) (d : Nat) (f : Fx) : Prop :=
  NodeAt w0 M f.t f.p ∧ ∃ h ks b0, f.t = .node ks ∧ Tr.fit (h + 1) f.t ∧ d + h ≤ big ∧ f.next < ks.length ∧ f.first = b0 + (Tr.lists (ks.take f.next)).length ∧ b0 + (Tr.lists ks).length ≤ big
/-- Frames of inner nodes, one below the other, the first of them the d-th. -/
def InAll (w0 : World) (M : Nat → Prop) : Nat → List Fx → Prop
  | _, [] => True
  | d, f :: fs => f.inner w0 M (d + 1) ∧ InAll w0 M (d + 1) fs
theorem InAll_append {w0 : World} {M : Nat → Prop} : ∀ (a b : List Fx) (d : Nat), InAll w0 M d (a ++ b) ↔ InAll w0 M d a ∧ InAll w0 M (d + a.length) b
  | [], b, d => by simp [InAll]
  | f :: a, b, d => by
    simp only [List.cons_append, InAll, InAll_append a b (d + 1), List.length_cons, and_assoc]
    rw [show d + 1 + a.length = d + (a.length + 1) from by omega]
def Fx.top (w0 : World) (M : Nat → Prop) (f : Fx) : Prop := NodeAt w0 M f.t f.p ∧ ∃ l, f.t = .leaf l ∧ l ≠ [] ∧ l.length ≤ big

/-! ### a node's cells -/
theorem NodeAt.lt {w : World} {nb : Nat → Prop} {t : Tr} {p : Nat} (h : NodeAt w nb t p) : p < w.heap.size := by
  cases t with
  | leaf l => simp only [NodeAt] at h; obtain ⟨_, v, h1, _⟩ := h; exact lt_of_block h1
  | node ks => simp only [NodeAt] at h; obtain ⟨_, v, ps, h1, _⟩ := h; exact lt_of_block h1
theorem NodeAt.ok {w : World} {nb : Nat → Prop} {t : Tr} {p : Nat} (h : NodeAt w nb t p) : ¬ nb p := by
  cases t with
  | leaf l => simp only [NodeAt] at h; exact h.1
  | node ks => simp only [NodeAt] at h; exact h.1
theorem cell_of_block {w : World} {p : Nat} {cs : Array Value} {E : TypeId} {fr : Nat × Nat} (h : w.heap[p]? = some (.cells cs E fr)) (j : Nat) : w.cell? ⟨p, j, none⟩ = cs[j]? := cell_of_row w p j cs E fr h
theorem NodeAt.size {w : World} {nb : Nat → Prop} {t : Tr} {p : Nat} (h : NodeAt w nb t p) : w.cell? ⟨p, 2, none⟩ = some (.int .i64 t.list.length) := by
  cases t with
  | leaf l => simp only [NodeAt] at h; obtain ⟨_, v, h1, _⟩ := h; rw [cell_of_block h1]; simp [list_leaf]
  | node ks => simp only [NodeAt] at h; obtain ⟨_, v, ps, h1, _⟩ := h; rw [cell_of_block h1]; simp [list_node]
theorem NodeAt.leafCells {w : World} {nb : Nat → Prop} {l : List Rw} {p : Nat} (h : NodeAt w nb (.leaf l) p) :
    ∃ A c, w.cell? ⟨p, 0, none⟩ = some (.slice none 0 0) ∧ w.cell? ⟨p, 1, none⟩ = some (.slice A l.length c) ∧ rRw.Sl 53 w nb (.slice A l.length c) l ∧ l.length ≤ c ∧ c ≤ maxLen := by
  simp only [NodeAt] at h
  obtain ⟨_, v, h1, h2⟩ := h
  obtain ⟨A, c, rfl, h3, h4⟩ := h2.shape
  exact ⟨A, c, by rw [cell_of_block h1]; rfl, by rw [cell_of_block h1]; rfl, h2, h3, h4⟩
theorem NodeAt.kids {w : World} {nb : Nat → Prop} {ks : List Tr} {p : Nat} (h : NodeAt w nb (.node ks) p) (h0 : 0 < ks.length) :
    ∃ g off c, ∃ ps : List Nat, w.cell? ⟨p, 0, none⟩ = some (.slice (some ⟨g, off, none⟩) ks.length c) ∧ w.cell? ⟨p, 1, none⟩ = some (.slice none 0 0) ∧ ks.length ≤ c ∧ c ≤ maxLen ∧ ¬ nb g ∧ g < w.heap.size ∧
      (∀ i (hi : i < ks.length), w.cell? ⟨g, off + i, none⟩ = some (.pointer (some ⟨ps[i]?.getD 0, 0, none⟩)) ∧ NodeAt w nb ks[i] (ps[i]?.getD 0)) := by
  simp only [NodeAt] at h
  obtain ⟨_, v, ps, h1, hl, h2, h3⟩ := h
  obtain ⟨A, c, rfl, hc, hm⟩ := h2.shape
  obtain ⟨g, off, _, rfl, hg, hlt, _⟩ := h2.cell (i := 0) (by omega)
  refine ⟨g, off, c, ps, by rw [cell_of_block h1, ← hl]; rfl, by rw [cell_of_block h1]; rfl, by omega, hm, hg, hlt, fun i hi => ?_⟩
  obtain ⟨g', off', cs, e, _, _, _, hr, hcell⟩ := h2.cell (i := i) (by omega)
  cases e
  simp only [rPtr, Rp.flat] at hr
  subst hr
  have := hcell 0 _ rfl
  simp only [rPtr, Rp.flat, Nat.mul_one, Nat.add_zero] at this
  have hp : ps[i]?.getD 0 = ps[i]'(by omega) := by rw [List.getElem?_eq_getElem (by omega)]; rfl
  rw [hp]
  exact ⟨this, h3.get hl i hi (by omega)⟩
/-- The kids of a node that lay in w0, seen later. -/
theorem NodeAt.kidsK {w0 w : World} {M : Nat → Prop} {ks : List Tr} {p : Nat} (h : NodeAt w0 M (.node ks) p) (h0 : 0 < ks.length) (k : Keeps M w0 w) :
    ∃ g off c, ∃ ps : Nat → Nat, w.cell? ⟨p, 0, none⟩ = some (.slice (some ⟨g, off, none⟩) ks.length c) ∧ w.cell? ⟨p, 1, none⟩ = some (.slice none 0 0) ∧ ks.length ≤ c ∧ c ≤ maxLen ∧ g < w0.heap.size ∧ ¬ M g ∧
      (∀ i (hi : i < ks.length), w.cell? ⟨g, off + i, none⟩ = some (.pointer (some ⟨ps i, 0, none⟩)) ∧ w.cell? ⟨ps i, 2, none⟩ = some (.int .i64 ks[i].list.length) ∧ NodeAt w0 M ks[i] (ps i)) := by
  obtain ⟨g, off, c, ps, c0, c1, h1, h2, h3, h4, h5⟩ := h.kids h0
  refine ⟨g, off, c, fun i => ps[i]?.getD 0, k.cell c0 h.ok, k.cell c1 h.ok, h1, h2, h4, h3, fun i hi => ?_⟩
  obtain ⟨h6, h7⟩ := h5 i hi
  exact ⟨k.cell h6 h3, k.cell h7.size h7.ok, h7⟩
theorem lists_pos : ∀ (ks : List Tr), (∀ k ∈ ks, 0 < k.list.length) → ks.length ≤ (Tr.lists ks).length
  | [], _ => by simp
  | t :: ts, h => by
    have h1 := h t (by simp)
    have h2 := lists_pos ts (fun k hk => h k (by simp [hk]))
    rw [Tr.lists, List.length_append, List.length_cons]
    omega
end Go.Proofs.Ythonibcfpojgpaa
