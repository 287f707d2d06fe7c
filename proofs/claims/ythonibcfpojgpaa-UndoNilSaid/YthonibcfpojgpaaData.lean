/-
  The program's data: spans, texts, cells, rows, trees of rows, and how they lie in memory.
-/
import Derived.Test.YthonibcfpojgpaaApp
import Derived.Test.YthonibcfpojgpaaProg
import Derived.KernelRfl
namespace Go.Proofs.Ythonibcfpojgpaa
open Go Go.RowKit

/-! ### the types' facts -/
theorem uSlSpan : Try.prog.underlying 61 = some (.slice 58) := by kernel_rfl
theorem uSlCell : Try.prog.underlying 51 = some (.slice 66) := by kernel_rfl
theorem uSlRow : Try.prog.underlying 109 = some (.slice 53) := by kernel_rfl
theorem uSlSlRow : Try.prog.underlying 231 = some (.slice 109) := by kernel_rfl
theorem uSlNode : Try.prog.underlying 147 = some (.slice 22) := by kernel_rfl
theorem uSlByte : Try.prog.underlying 50 = some (.slice 5) := by kernel_rfl
theorem uSlInt : Try.prog.underlying 67 = some (.slice 3) := by kernel_rfl
theorem uSlField : Try.prog.underlying 183 = some (.slice 256) := by kernel_rfl
theorem uSlLine : Try.prog.underlying 181 = some (.slice 185) := by kernel_rfl
theorem uSlFrame : Try.prog.underlying 216 = some (.slice 224) := by kernel_rfl
def zSpan : Value := .agg #[.int .i64 0, .int .i64 0]
def zCell : Value := .agg #[.slice none 0 0, .int .i64 0, .int .i64 0, .int .i64 0, .bool false]
def zRow : Value := .agg #[.slice none 0 0, .int .i64 0, .bool false]
theorem iSpan : (Try.prog.info? 58).map (fun i => (i.zero, i.size, i.bytes)) = some (some zSpan, 2, 16) := by kernel_rfl
theorem iCell : (Try.prog.info? 66).map (fun i => (i.zero, i.size, i.bytes)) = some (some zCell, 5, 56) := by kernel_rfl
theorem iRow : (Try.prog.info? 53).map (fun i => (i.zero, i.size, i.bytes)) = some (some zRow, 3, 40) := by kernel_rfl
theorem iNode : (Try.prog.info? 22).map (fun i => (i.zero, i.size, i.bytes)) = some (some (.pointer none), 1, 8) := by kernel_rfl
theorem iSlRow : (Try.prog.info? 109).map (fun i => (i.zero, i.size, i.bytes)) = some (some (.slice none 0 0), 1, 24) := by kernel_rfl
theorem iSlNode : (Try.prog.info? 147).map (fun i => (i.zero, i.size, i.bytes)) = some (some (.slice none 0 0), 1, 24) := by kernel_rfl
theorem iByte : (Try.prog.info? 5).map (fun i => (i.zero, i.size, i.bytes)) = some (some (.int .u8 0), 1, 1) := by kernel_rfl
theorem iInt : (Try.prog.info? 3).map (fun i => (i.zero, i.size, i.bytes)) = some (some (.int .i64 0), 1, 8) := by kernel_rfl
theorem iField : (Try.prog.info? 256).map (fun i => (i.zero, i.size, i.bytes)) = some (some (.agg #[.int .i64 0, .int .i64 0, .int .i64 0, .slice none 0 0]), 4, 48) := by kernel_rfl
theorem iLine : (Try.prog.info? 185).map (fun i => (i.zero, i.size, i.bytes)) = some (some (.agg #[.slice none 0 0, .int .i64 0]), 2, 32) := by kernel_rfl
theorem iFrame : (Try.prog.info? 224).map (fun i => (i.zero, i.size, i.bytes)) = some (some (.agg #[.pointer none, .int .i64 0, .int .i64 0]), 3, 24) := by kernel_rfl

/-! ### spans, texts, cells, rows -/
structure Spn where
  at' : Int
  n : Int
  deriving DecidableEq
def Spn.vals (s : Spn) : List Value := [.int .i64 s.at', .int .i64 s.n]
def rSpn : Rp Spn := Rp.flat 2 Spn.vals (fun _ => rfl) (fun _ u hu => by simp [Spn.vals] at hu; rcases hu with rfl | rfl <;> rfl)
structure Txt where
  l : List Spn
  n : Int
def rTxt : Rp Txt where
  sz := 2
  r := fun w nb x cs => ∃ v, cs = [v, .int .i64 x.n] ∧ rSpn.Sl 58 w nb v x.l
  len := fun ⟨_, h, _⟩ => by rw [h]; rfl
  one := fun ⟨_, h, k⟩ => by subst h; intro u hu; simp at hu; rcases hu with rfl | rfl <;> first | exact k.oneCell | rfl
  keep := fun ⟨v, h, k⟩ q => ⟨v, h, k.keep q⟩
  weak := fun ⟨v, h, k⟩ q => ⟨v, h, k.weak q⟩
structure Cel where
  t : Txt
  raw : Spn
  kept : Bool
def rCel : Rp Cel where
  sz := 5
  r := fun w nb x cs => ∃ v, cs = [v, .int .i64 x.t.n, .int .i64 x.raw.at', .int .i64 x.raw.n, .bool x.kept] ∧ rSpn.Sl 58 w nb v x.t.l
  len := fun ⟨_, h, _⟩ => by rw [h]; rfl
  one := fun ⟨_, h, k⟩ => by subst h; intro u hu; simp at hu; rcases hu with rfl | rfl | rfl | rfl | rfl <;> first | exact k.oneCell | rfl
  keep := fun ⟨v, h, k⟩ q => ⟨v, h, k.keep q⟩
  weak := fun ⟨v, h, k⟩ q => ⟨v, h, k.weak q⟩
structure Rw where
  cells : List Cel
  fin : Int
  hid : Bool
def rRw : Rp Rw where
  sz := 3
  r := fun w nb x cs => ∃ v, cs = [v, .int .i64 x.fin, .bool x.hid] ∧ rCel.Sl 66 w nb v x.cells
  len := fun ⟨_, h, _⟩ => by rw [h]; rfl
  one := fun ⟨_, h, k⟩ => by subst h; intro u hu; simp at hu; rcases hu with rfl | rfl | rfl <;> first | exact k.oneCell | rfl
  keep := fun ⟨v, h, k⟩ q => ⟨v, h, k.keep q⟩
  weak := fun ⟨v, h, k⟩ q => ⟨v, h, k.weak q⟩

/-! ### trees of rows -/
inductive Tr where
  | leaf (l : List Rw)
  | node (ks : List Tr)
mutual
def Tr.list : Tr → List Rw
  | .leaf l => l
  | .node ks => Tr.lists ks
def Tr.lists : List Tr → List Rw
  | [] => []
  | t :: ts => t.list ++ Tr.lists ts
end
def rPtr : Rp Nat := Rp.flat 1 (fun b => [.pointer (some ⟨b, 0, none⟩)]) (fun _ => rfl) (fun _ u hu => by simp at hu; subst hu; rfl)
mutual
/-- A node lies in block b. -/
def NodeAt (w : World) (nb : Nat → Prop) : Tr → Nat → Prop
  | .leaf l, b => ¬ nb b ∧ ∃ v, w.heap[b]? = some (.cells #[.slice none 0 0, v, .int .i64 l.length] 226 (0, 0)) ∧ rRw.Sl 53 w nb v l
  | .node ks, b => ¬ nb b ∧ ∃ v ps, w.heap[b]? = some (.cells #[v, .slice none 0 0, .int .i64 (Tr.lists ks).length] 226 (0, 0)) ∧ ps.length = ks.length ∧
      rPtr.Sl 22 w nb v ps ∧ NodesAt w nb ks ps
def NodesAt (w : World) (nb : Nat → Prop) : List Tr → List Nat → Prop
  | [], _ => True
  | t :: ts, ps => NodeAt w nb t (ps.headD 0) ∧ NodesAt w nb ts ps.tail
end
theorem NodesAt.get {w : World} {nb : Nat → Prop} : ∀ {ks : List Tr} {ps : List Nat}, NodesAt w nb ks ps → ps.length = ks.length → ∀ i (h : i < ks.length) (h' : i < ps.length), NodeAt w nb ks[i] ps[i]
  | t :: ts, p :: ps, h, hl, 0, _, _ => by simpa [NodesAt] using h.1
  | t :: ts, p :: ps, h, hl, i + 1, h1, h2 => NodesAt.get (ks := ts) (ps := ps) (by simpa [NodesAt] using h.2) (by simpa using hl) i (by simpa using h1) (by simpa using h2)
  | t :: ts, [], _, hl, _, _, _ => by simp at hl
theorem NodesAt.mk {w : World} {nb : Nat → Prop} : ∀ {ks : List Tr} {ps : List Nat}, ps.length = ks.length → (∀ i (h : i < ks.length) (h' : i < ps.length), NodeAt w nb ks[i] ps[i]) → NodesAt w nb ks ps
  | [], _, _, _ => by simp [NodesAt]
  | t :: ts, p :: ps, hl, h => by
    have h0 := h 0 (by simp) (by simp)
    have h1 := NodesAt.mk (w := w) (nb := nb) (ks := ts) (ps := ps) (by simpa using hl) (fun i a b => by have := h (i + 1) (by simpa using a) (by simpa using b); simpa using this)
    exact ⟨by simpa using h0, by simpa using h1⟩
  | t :: ts, [], hl, _ => by simp at hl
mutual
theorem NodeAt.keep {w w' : World} {nb : Nat → Prop} (k : Keeps nb w w') : ∀ {t : Tr} {b : Nat}, NodeAt w nb t b → NodeAt w' nb t b
  | .leaf l, b, h => by
    simp only [NodeAt] at h ⊢
    obtain ⟨h0, v, h1, h2⟩ := h
    exact ⟨h0, v, k.obj h1 h0, h2.keep k⟩
  | .node ks, b, h => by
    simp only [NodeAt] at h ⊢
    obtain ⟨h0, v, ps, h1, h2, h3, h4⟩ := h
    exact ⟨h0, v, ps, k.obj h1 h0, h2, h3.keep k, NodesAt.keep k h4⟩
theorem NodesAt.keep {w w' : World} {nb : Nat → Prop} (k : Keeps nb w w') : ∀ {ks : List Tr} {ps : List Nat}, NodesAt w nb ks ps → NodesAt w' nb ks ps
  | [], _, _ => by simp [NodesAt]
  | t :: ts, ps, h => by
    simp only [NodesAt] at h ⊢
    exact ⟨NodeAt.keep k h.1, NodesAt.keep k h.2⟩
end
mutual
theorem NodeAt.weak {w : World} {nb nb' : Nat → Prop} (k : ∀ b, b < w.heap.size → nb' b → nb b) : ∀ {t : Tr} {b : Nat}, NodeAt w nb t b → NodeAt w nb' t b
  | .leaf l, b, h => by
    simp only [NodeAt] at h ⊢
    obtain ⟨h0, v, h1, h2⟩ := h
    exact ⟨fun x => h0 (k b (lt_of_block h1) x), v, h1, h2.weak k⟩
  | .node ks, b, h => by
    simp only [NodeAt] at h ⊢
    obtain ⟨h0, v, ps, h1, h2, h3, h4⟩ := h
    exact ⟨fun x => h0 (k b (lt_of_block h1) x), v, ps, h1, h2, h3.weak k, NodesAt.weak k h4⟩
theorem NodesAt.weak {w : World} {nb nb' : Nat → Prop} (k : ∀ b, b < w.heap.size → nb' b → nb b) : ∀ {ks : List Tr} {ps : List Nat}, NodesAt w nb ks ps → NodesAt w nb' ks ps
  | [], _, _ => by simp [NodesAt]
  | t :: ts, ps, h => by
    simp only [NodesAt] at h ⊢
    exact ⟨NodeAt.weak k h.1, NodesAt.weak k h.2⟩
end
/-- A node: a pointer to it. -/
def rNode : Rp Tr where
  sz := 1
  r := fun w nb x cs => ∃ b, cs = [.pointer (some ⟨b, 0, none⟩)] ∧ NodeAt w nb x b
  len := fun ⟨_, h, _⟩ => by rw [h]; rfl
  one := fun ⟨_, h, k⟩ => by subst h; intro u hu; simp at hu; subst hu; rfl
  keep := fun ⟨v, h, k⟩ q => ⟨v, h, k.keep q⟩
  weak := fun ⟨v, h, k⟩ q => ⟨v, h, k.weak q⟩
/-- As high as h, no node without a thing, no inner node of fewer than two kids. -/
def Tr.fit : Nat → Tr → Prop
  | 0, .leaf l => l ≠ []
  | h + 1, .node ks => 2 ≤ ks.length ∧ ∀ k ∈ ks, Tr.fit h k
  | _, _ => False
end Go.Proofs.Ythonibcfpojgpaa
