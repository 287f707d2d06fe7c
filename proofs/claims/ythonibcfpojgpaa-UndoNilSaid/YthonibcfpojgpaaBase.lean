/-
  The base: how Go's data of the program read in memory (Rp, Slc, Sl), what of memory is kept (Keeps), and small laws on appended rows.
-/
import Derived.WalkKit
import Derived.RowKit3
import Derived.Lib.Hide
import Derived.Laws.AppendOwn
import Derived.Laws.OwnMore
import Derived.Maps.AppendAt
import Derived.Deep.Draws
namespace Go.Proofs.Ythonibcfpojgpaa
open Go Go.RowKit
set_option linter.unusedVariables false

/-! ### what of memory is kept -/
/-- Every block of w that is not among nb lies in w' as it lay; the streams are as they were. -/
structure Keeps (nb : Nat → Prop) (w w' : World) : Prop where
  os : w'.os = w.os
  tape : w'.tape = w.tape
  output : w'.output = w.output
  size : w.heap.size ≤ w'.heap.size
  block : ∀ b, b < w.heap.size → ¬ nb b → w'.heap[b]? = w.heap[b]?

/-- No block. -/
def None' : Nat → Prop := fun _ => False
/-- One block. -/
def Just (g : Nat) : Nat → Prop := fun b => b = g
/-- The block that a slice begins in. -/
def Of (v : Value) : Nat → Prop := fun b => v.ownBlock = some b
def Or' (p q : Nat → Prop) : Nat → Prop := fun b => p b ∨ q b

theorem Keeps.refl (nb : Nat → Prop) (w : World) : Keeps nb w w := ⟨rfl, rfl, rfl, Nat.le_refl _, fun _ _ _ => rfl⟩
theorem Keeps.trans {nb : Nat → Prop} {a b c : World} (h : Keeps nb a b) (k : Keeps nb b c) : Keeps nb a c :=
  ⟨k.os.trans h.os, k.tape.trans h.tape, k.output.trans h.output, Nat.le_trans h.size k.size, fun i hi hn => (k.block i (Nat.lt_of_lt_of_le hi h.size) hn).trans (h.block i hi hn)⟩
theorem Keeps.mono {nb nb' : Nat → Prop} {w w' : World} (h : Keeps nb w w') (hn : ∀ b, b < w.heap.size → nb b → nb' b) : Keeps nb' w w' :=
  ⟨h.os, h.tape, h.output, h.size, fun b hb hnb => h.block b hb (fun x => hnb (hn b hb x))⟩
theorem Keeps.over {M nb : Nat → Prop} {a b c : World} (h : Keeps M a b) (k : Keeps nb b c) (hn : ∀ i, i < a.heap.size → nb i → M i) : Keeps M a c :=
  ⟨k.os.trans h.os, k.tape.trans h.tape, k.output.trans h.output, Nat.le_trans h.size k.size, fun i hi hm => (k.block i (Nat.lt_of_lt_of_le hi h.size) (fun x => hm (hn i hi x))).trans (h.block i hi hm)⟩
theorem Keeps.below {nb : Nat → Prop} {w w' : World} (h : Below w.heap.size w w') : Keeps nb w w' := ⟨h.os, h.tape, h.output, h.size, fun b hb _ => h.block b hb⟩
theorem Keeps.belowB {nb : Nat → Prop} {w w' : World} {B : Nat} (h : Below B w w') (hB : ∀ b, B ≤ b → b < w.heap.size → nb b) : Keeps nb w w' :=
  ⟨h.os, h.tape, h.output, h.size, fun b hb hn => h.block b (Nat.lt_of_not_le fun hle => hn (hB b hle hb))⟩
theorem Keeps.toBelow {nb : Nat → Prop} {w w' : World} {B : Nat} (h : Keeps nb w w') (hB : B ≤ w.heap.size) (hn : ∀ b, nb b → B ≤ b) : Below B w w' :=
  ⟨h.os, h.tape, h.output, h.size, fun b hb => h.block b (Nat.lt_of_lt_of_le hb hB) (fun x => Nat.lt_irrefl _ (Nat.lt_of_lt_of_le hb (hn b x)))⟩
theorem Keeps.grown {nb : Nat → Prop} {w w' : World} {row : Option Nat} (h : w.grownBy w' row) (hr : ∀ b, row = some b → nb b) : Keeps nb w w' :=
  ⟨h.os, h.tape, h.output, h.size, fun b hb hn => h.block b hb (fun e => hn (hr b e.symm))⟩
theorem Keeps.alloc (nb : Nat → Prop) (w : World) (o : Obj) : Keeps nb w (w.alloc o) := .below ((Below.refl _ w).alloc (Nat.le_refl _) o)
theorem Keeps.drew (nb : Nat → Prop) (w : World) : Keeps nb w w.drew := ⟨rfl, rfl, rfl, Nat.le_refl _, fun _ _ _ => rfl⟩
theorem Keeps.drewN (nb : Nat → Prop) (w : World) (n : Nat) : Keeps nb w (w.drewN n) := ⟨rfl, rfl, rfl, Nat.le_refl _, fun _ _ _ => rfl⟩
theorem Keeps.setCell {nb : Nat → Prop} (w : World) (p : Addr) (u : Value) (hp : nb p.block) : Keeps nb w (w.setCell p u) :=
  ⟨rfl, rfl, rfl, by simp [World.setCell], fun b _ hn => Below.heap_setCell _ _ _ _ (fun e => hn (e ▸ hp))⟩
theorem Keeps.to {nb : Nat → Prop} {a b c : World} (h : Keeps nb a b) (e1 : c.heap = b.heap) (e2 : c.os = b.os) (e3 : c.tape = b.tape) (e4 : c.output = b.output) : Keeps nb a c :=
  ⟨e2.trans h.os, e3.trans h.tape, e4.trans h.output, by rw [e1]; exact h.size, fun i hi hn => by rw [e1]; exact h.block i hi hn⟩
theorem Keeps.cell {nb : Nat → Prop} {w w' : World} (h : Keeps nb w w') {p : Addr} {u : Value} (hc : w.cell? p = some u) (hn : ¬ nb p.block) : w'.cell? p = some u :=
  (World.cell?_of_block (h.block p.block (World.block_lt_of_cell? w p hc) hn)).trans hc
theorem Keeps.frozen {nb : Nat → Prop} {w w' : World} (h : Keeps nb w w') {p : Addr} (hb : p.block < w.heap.size) (hn : ¬ nb p.block) : w'.frozen? p = w.frozen? p :=
  World.frozen?_of_block (h.block p.block hb hn)
theorem Keeps.obj {nb : Nat → Prop} {w w' : World} (h : Keeps nb w w') {b : Nat} {o : Obj} (hc : w.heap[b]? = some o) (hn : ¬ nb b) : w'.heap[b]? = some o :=
  (h.block b (lt_of_block hc) hn).trans hc

/-- A block that lies, seen behind new ones: what the walk asks for at each read. -/
theorem lts {n s : Nat} (h : n < s) : n < s ∧ n < s + 1 ∧ n < s + 1 + 1 ∧ n < s + 1 + 1 + 1 ∧ n < s + 1 + 1 + 1 + 1 ∧ n < s + 1 + 1 + 1 + 1 + 1 ∧ n < s + 1 + 1 + 1 + 1 + 1 + 1 := by omega
/-- Behind a call that laid blocks alone, old cells read as before. -/
theorem bcell {W w1 : World} (hb : Below W.heap.size W w1) : (∀ b o, b < W.heap.size → w1.cell? ⟨b, o, none⟩ = W.cell? ⟨b, o, none⟩) ∧ (∀ b o, b < W.heap.size → w1.frozen? ⟨b, o, none⟩ = W.frozen? ⟨b, o, none⟩) ∧ W.heap.size ≤ w1.heap.size :=
  ⟨fun b o h => hb.cell (p := ⟨b, o, none⟩) h, fun b o h => hb.frozen (p := ⟨b, o, none⟩) h, hb.size⟩
/-- What a call comes to: a value, and new blocks alone. -/
def Ret (v : Value) (w : World) (e : Ending) (w' : World) : Prop := e = .returned v ∧ Below w.heap.size w w'
theorem Ret.mk {v : Value} {w w' : World} {e : Ending} (h : e = .returned v) (hb : Below w.heap.size w w') : Ret v w e w' := ⟨h, hb⟩
theorem retv {v u : Value} (h : v = u) : Ending.returned v = .returned u := by rw [h]

/-- New blocks alone. -/
theorem bel1 (w : World) (a : Obj) : Below w.heap.size w (w.alloc a) := by
  repeat (first | exact Below.refl _ _ | refine Below.alloc ?_ (by (try simp only [World.size_alloc]); omega) _)
theorem bel2 (w : World) (a b : Obj) : Below w.heap.size w ((w.alloc a).alloc b) := by
  repeat (first | exact Below.refl _ _ | refine Below.alloc ?_ (by (try simp only [World.size_alloc]); omega) _)
theorem bel3 (w : World) (a b c : Obj) : Below w.heap.size w (((w.alloc a).alloc b).alloc c) := by
  repeat (first | exact Below.refl _ _ | refine Below.alloc ?_ (by (try simp only [World.size_alloc]); omega) _)
theorem bel4 (w : World) (a b c d : Obj) : Below w.heap.size w ((((w.alloc a).alloc b).alloc c).alloc d) := by
  repeat (first | exact Below.refl _ _ | refine Below.alloc ?_ (by (try simp only [World.size_alloc]); omega) _)
theorem bel5 (w : World) (a b c d e : Obj) : Below w.heap.size w (((((w.alloc a).alloc b).alloc c).alloc d).alloc e) := by
  repeat (first | exact Below.refl _ _ | refine Below.alloc ?_ (by (try simp only [World.size_alloc]); omega) _)
theorem bel6 (w : World) (a b c d e f : Obj) : Below w.heap.size w ((((((w.alloc a).alloc b).alloc c).alloc d).alloc e).alloc f) := by
  repeat (first | exact Below.refl _ _ | refine Below.alloc ?_ (by (try simp only [World.size_alloc]); omega) _)
theorem bel7 (w : World) (a b c d e f g : Obj) : Below w.heap.size w (((((((w.alloc a).alloc b).alloc c).alloc d).alloc e).alloc f).alloc g) := by
  repeat (first | exact Below.refl _ _ | refine Below.alloc ?_ (by (try simp only [World.size_alloc]); omega) _)
theorem bel8 (w : World) (a b c d e f g h : Obj) : Below w.heap.size w ((((((((w.alloc a).alloc b).alloc c).alloc d).alloc e).alloc f).alloc g).alloc h) := by
  repeat (first | exact Below.refl _ _ | refine Below.alloc ?_ (by (try simp only [World.size_alloc]); omega) _)
theorem bel9 (w : World) (a b c d e f g h i : Obj) : Below w.heap.size w (((((((((w.alloc a).alloc b).alloc c).alloc d).alloc e).alloc f).alloc g).alloc h).alloc i) := by
  repeat (first | exact Below.refl _ _ | refine Below.alloc ?_ (by (try simp only [World.size_alloc]); omega) _)
theorem bel10 (w : World) (a b c d e f g h i j : Obj) : Below w.heap.size w ((((((((((w.alloc a).alloc b).alloc c).alloc d).alloc e).alloc f).alloc g).alloc h).alloc i).alloc j) := by
  repeat (first | exact Below.refl _ _ | refine Below.alloc ?_ (by (try simp only [World.size_alloc]); omega) _)

/-! ### a slice that is read: its cells -/
structure Slc (w : World) (nb : Nat → Prop) (E : TypeId) (sz : Nat) (v : Value) (n : Nat) (cs : List Value) : Prop where
  len : cs.length = n * sz
  lies : (v = .slice none 0 0 ∧ n = 0) ∨ ∃ g off cap cur, v = .slice (some ⟨g, off, none⟩) n cap ∧ ¬ nb g ∧ w.heap[g]? = some (.cells cur E (0, 0)) ∧ n ≤ cap ∧ cap ≤ maxLen ∧
    off + cap * sz ≤ cur.size ∧ ∀ j u, cs[j]? = some u → cur[off + j]? = some u

section
variable {w w' : World} {nb nb' : Nat → Prop} {E : TypeId} {sz n : Nat} {v : Value} {cs : List Value}
theorem Slc.nil (w : World) (nb : Nat → Prop) (E : TypeId) (sz : Nat) : Slc w nb E sz (.slice none 0 0) 0 [] := ⟨by simp, .inl ⟨rfl, rfl⟩⟩
theorem Slc.keep (h : Slc w nb E sz v n cs) (k : Keeps nb w w') : Slc w' nb E sz v n cs := by
  refine ⟨h.len, ?_⟩
  rcases h.lies with h | ⟨g, off, cap, cur, hv, hg, hh, r⟩
  · exact .inl h
  · exact .inr ⟨g, off, cap, cur, hv, hg, k.obj hh hg, r⟩
theorem Slc.weak (h : Slc w nb E sz v n cs) (k : ∀ b, b < w.heap.size → nb' b → nb b) : Slc w nb' E sz v n cs := by
  refine ⟨h.len, ?_⟩
  rcases h.lies with h | ⟨g, off, cap, cur, hv, hg, hh, r⟩
  · exact .inl h
  · exact .inr ⟨g, off, cap, cur, hv, fun x => hg (k g (lt_of_block hh) x), hh, r⟩
theorem Slc.shape (h : Slc w nb E sz v n cs) : ∃ A cap, v = .slice A n cap ∧ n ≤ cap ∧ cap ≤ maxLen := by
  rcases h.lies with ⟨rfl, rfl⟩ | ⟨g, off, cap, cur, rfl, hg, hh, h1, h2, _⟩
  · exact ⟨none, 0, rfl, Nat.le_refl _, by simp [maxLen]⟩
  · exact ⟨_, cap, rfl, h1, h2⟩
theorem Slc.cell {A : Option Addr} {c : Nat} (h : Slc w nb E sz (.slice A n c) n cs) (hn : 0 < n) :
    ∃ g off, A = some ⟨g, off, none⟩ ∧ ¬ nb g ∧ g < w.heap.size ∧ ∀ j u, cs[j]? = some u → w.cell? ⟨g, off + j, none⟩ = some u := by
  rcases h.lies with ⟨_, rfl⟩ | ⟨g, off, cap, cur, hv, hg, hh, h1, h2, h3, h4⟩
  · omega
  · injection hv with ha _ _
    exact ⟨g, off, ha, hg, lt_of_block hh, fun j u hu => by rw [cell_of_row w g (off + j) cur E (0, 0) hh]; exact h4 j u hu⟩
/-- What the call owns can be read. -/
theorem Slc.of_own {base : Nat} (h : w.ownsRow base E sz v n cs) (hn : ∀ b, v.ownBlock = some b → ¬ nb b) : Slc w nb E sz v n cs := by
  refine ⟨h.1, ?_⟩
  rcases h.2 with hx | ⟨g, cap, cur, rfl, hb, hh, h1, h2, h3, h4⟩
  · exact .inl hx
  · refine .inr ⟨g, 0, cap, cur, rfl, hn g rfl, hh, h1, h2, by omega, fun j u hu => ?_⟩
    rw [← h4, List.getElem?_take] at hu
    split at hu
    · simpa using hu
    · cases hu
end

/-! ### kinds of data -/
structure Rp (α : Type) where
  sz : Nat
  r : World → (Nat → Prop) → α → List Value → Prop
  len : ∀ {w nb x cs}, r w nb x cs → cs.length = sz
  one : ∀ {w nb x cs}, r w nb x cs → ∀ u ∈ cs, u.oneCell' = true
  keep : ∀ {w w' nb x cs}, r w nb x cs → Keeps nb w w' → r w' nb x cs
  weak : ∀ {w nb nb' x cs}, r w nb x cs → (∀ b, b < w.heap.size → nb' b → nb b) → r w nb' x cs

/-- Data whose cells name no memory. -/
def Rp.flat {α : Type} (n : Nat) (f : α → List Value) (hl : ∀ x, (f x).length = n) (h1 : ∀ x, ∀ u ∈ f x, u.oneCell' = true) : Rp α where
  sz := n
  r := fun _ _ x cs => cs = f x
  len := fun h => by rw [h]; exact hl _
  one := fun h => by rw [h]; exact h1 _
  keep := fun h _ => h
  weak := fun h _ => h
def rInt (k : IntKind) : Rp Int := Rp.flat 1 (fun x => [.int k x]) (fun _ => rfl) (fun _ u hu => by simp at hu; subst hu; rfl)
def rBool : Rp Bool := Rp.flat 1 (fun x => [.bool x]) (fun _ => rfl) (fun _ u hu => by simp at hu; subst hu; rfl)
def rStr : Rp ByteArray := Rp.flat 1 (fun x => [.string x]) (fun _ => rfl) (fun _ u hu => by simp at hu; subst hu; rfl)

/-- Elements one behind the other. -/
def Reps {α : Type} (R : α → List Value → Prop) (sz : Nat) (xs : List α) (cs : List Value) : Prop :=
  cs.length = xs.length * sz ∧ ∀ j x, xs[j]? = some x → R x ((cs.drop (j * sz)).take sz)
section
variable {α : Type} {R R' : α → List Value → Prop} {sz : Nat} {xs ys : List α} {cs ds : List Value}
theorem Reps.nil (R : α → List Value → Prop) (sz : Nat) : Reps R sz [] [] := ⟨by simp, fun j x h => by simp at h⟩
theorem Reps.imp (h : Reps R sz xs cs) (hR : ∀ x c, R x c → R' x c) : Reps R' sz xs cs := ⟨h.1, fun j x hj => hR _ _ (h.2 j x hj)⟩
theorem Reps.append (h : Reps R sz xs cs) (k : Reps R sz ys ds) : Reps R sz (xs ++ ys) (cs ++ ds) := by
  refine ⟨by rw [List.length_append, h.1, k.1, List.length_append, Nat.add_mul], fun j x hj => ?_⟩
  rcases Nat.lt_or_ge j xs.length with hlt | hge
  · rw [List.getElem?_append_left hlt] at hj
    have h1 : j * sz + sz ≤ cs.length := by rw [h.1, ← Nat.succ_mul]; exact Nat.mul_le_mul_right _ hlt
    rw [List.drop_append_of_le_length (by omega), List.take_append_of_le_length (by rw [List.length_drop]; omega)]
    exact h.2 j x hj
  · rw [List.getElem?_append_right hge] at hj
    have h2 := k.2 _ x hj
    have h3 : j * sz = cs.length + (j - xs.length) * sz := by rw [h.1, ← Nat.add_mul]; congr 1; omega
    rw [h3, ← List.drop_drop, List.drop_left]
    exact h2
theorem Reps.one {x : α} (hx : R x cs) (hl : cs.length = sz) : Reps R sz [x] cs := by
  refine ⟨by simpa using hl, fun j y hj => ?_⟩
  match j, hj with
  | 0, hj =>
    simp only [List.getElem?_cons_zero, Option.some.injEq] at hj
    subst hj
    rw [Nat.zero_mul, List.drop_zero, ← hl, List.take_length]
    exact hx
  | j + 1, hj => simp at hj
theorem Reps.snoc {x : α} {c : List Value} (h : Reps R sz xs cs) (hx : R x c) (hl : c.length = sz) : Reps R sz (xs ++ [x]) (cs ++ c) := h.append (.one hx hl)
theorem Reps.take (h : Reps R sz xs cs) (i : Nat) (hi : i ≤ xs.length) : Reps R sz (xs.take i) (cs.take (i * sz)) := by
  have hc : i * sz ≤ cs.length := by rw [h.1]; exact Nat.mul_le_mul_right _ hi
  refine ⟨by rw [List.length_take, List.length_take, Nat.min_eq_left hi, Nat.min_eq_left hc], fun j x hj => ?_⟩
  have hji : j < i := by
    have := (List.getElem?_eq_some_iff.1 hj).1
    rw [List.length_take] at this; omega
  rw [List.getElem?_take, if_pos hji] at hj
  have h2 := h.2 j x hj
  have h3 : j * sz + sz ≤ i * sz := by rw [← Nat.succ_mul]; exact Nat.mul_le_mul_right _ hji
  rw [List.drop_take, List.take_take, Nat.min_eq_left (by omega)]
  exact h2
theorem Reps.drop (h : Reps R sz xs cs) (i : Nat) : Reps R sz (xs.drop i) (cs.drop (i * sz)) := by
  refine ⟨by rw [List.length_drop, List.length_drop, h.1, Nat.sub_mul], fun j x hj => ?_⟩
  rw [List.getElem?_drop] at hj
  have h2 := h.2 (i + j) x hj
  rw [List.drop_drop, ← Nat.add_mul]
  exact h2
/-- The chunk of an element, cell by cell. -/
theorem Reps.chunk (h : Reps R sz xs cs) {i : Nat} (hi : i < xs.length) : ∃ c, c.length = sz ∧ R xs[i] c ∧ ∀ j u, c[j]? = some u → cs[i * sz + j]? = some u := by
  have h1 : i * sz + sz ≤ cs.length := by rw [h.1, ← Nat.succ_mul]; exact Nat.mul_le_mul_right _ hi
  refine ⟨(cs.drop (i * sz)).take sz, by rw [List.length_take, List.length_drop]; omega, h.2 i _ (List.getElem?_eq_getElem hi), fun j u hu => ?_⟩
  rw [List.getElem?_take] at hu
  split at hu
  · rwa [List.getElem?_drop] at hu
  · cases hu
theorem Reps.flatMap {f : α → List Value} (hf : ∀ x, (f x).length = sz) (hR : ∀ x, R x (f x)) : ∀ xs : List α, Reps R sz xs (xs.flatMap f)
  | [] => Reps.nil R sz
  | x :: xs => by
    have h := (Reps.one (hR x) (hf x)).append (Reps.flatMap hf hR xs)
    simpa [List.flatMap_cons] using h
end

/-- A slice of data. -/
def Rp.Sl {α : Type} (d : Rp α) (E : TypeId) (w : World) (nb : Nat → Prop) (v : Value) (xs : List α) : Prop :=
  ∃ cs, Slc w nb E d.sz v xs.length cs ∧ Reps (d.r w nb) d.sz xs cs

section
variable {α : Type} {d : Rp α} {E : TypeId} {w w' : World} {nb nb' : Nat → Prop} {v : Value} {xs : List α}
theorem Rp.Sl.nil (d : Rp α) (E : TypeId) (w : World) (nb : Nat → Prop) : d.Sl E w nb (.slice none 0 0) [] := ⟨[], Slc.nil _ _ _ _, Reps.nil _ _⟩
theorem Rp.Sl.keep (h : d.Sl E w nb v xs) (k : Keeps nb w w') : d.Sl E w' nb v xs := by
  obtain ⟨cs, h1, h2⟩ := h
  exact ⟨cs, h1.keep k, h2.imp fun _ _ hx => d.keep hx k⟩
theorem Rp.Sl.weak (h : d.Sl E w nb v xs) (k : ∀ b, b < w.heap.size → nb' b → nb b) : d.Sl E w nb' v xs := by
  obtain ⟨cs, h1, h2⟩ := h
  exact ⟨cs, h1.weak k, h2.imp fun _ _ hx => d.weak hx k⟩
theorem Rp.Sl.shape (h : d.Sl E w nb v xs) : ∃ A cap, v = .slice A xs.length cap ∧ xs.length ≤ cap ∧ cap ≤ maxLen := by
  obtain ⟨cs, h1, h2⟩ := h
  exact h1.shape
theorem Rp.Sl.oneCell (h : d.Sl E w nb v xs) : v.oneCell' = true := by
  obtain ⟨A, cap, rfl, _⟩ := h.shape
  rfl
theorem Rp.Sl.cell {A : Option Addr} {c n : Nat} (h : d.Sl E w nb (.slice A n c) xs) {i : Nat} (hi : i < xs.length) :
    ∃ g off cs, A = some ⟨g, off, none⟩ ∧ ¬ nb g ∧ g < w.heap.size ∧ cs.length = d.sz ∧ d.r w nb xs[i] cs ∧ ∀ j u, cs[j]? = some u → w.cell? ⟨g, off + i * d.sz + j, none⟩ = some u := by
  obtain ⟨cs, h1, h2⟩ := h
  obtain ⟨A', cap, hv, _⟩ := h1.shape
  injection hv with _ hn _
  subst hn
  obtain ⟨g, off, ha, hg, hlt, hc⟩ := h1.cell (by omega)
  obtain ⟨c', hl, hr, hcell⟩ := h2.chunk hi
  exact ⟨g, off, c', ha, hg, hlt, hl, hr, fun j u hu => by rw [Nat.add_assoc]; exact hc _ u (hcell j u hu)⟩
theorem Rp.Sl.one (h : d.Sl E w nb v xs) : ∀ u ∈ [v], u.oneCell' = true := by
  intro u hu
  simp at hu
  subst hu
  exact h.oneCell
end
/-- A slice as data of one cell. -/
def rSl {α : Type} (d : Rp α) (E : TypeId) : Rp (List α) where
  sz := 1
  r := fun w nb xs cs => ∃ v, cs = [v] ∧ d.Sl E w nb v xs
  len := fun ⟨_, h, _⟩ => by rw [h]; rfl
  one := fun ⟨_, h, k⟩ => by rw [h]; exact k.one
  keep := fun ⟨v, h, k⟩ q => ⟨v, h, k.keep q⟩
  weak := fun ⟨v, h, k⟩ q => ⟨v, h, k.weak q⟩

/-! ### a slice that the call itself makes and appends to -/
/-- v is a slice of the call's own (its block is from base on, and not among nb), whose elements' rows are none of it. -/
def Rp.Own {α : Type} (d : Rp α) (E : TypeId) (w : World) (base : Nat) (nb : Nat → Prop) (v : Value) (xs : List α) : Prop :=
  (∀ b, v.ownBlock = some b → ¬ nb b) ∧ ∃ cs, w.ownsRow base E d.sz v xs.length cs ∧ Reps (d.r w (Or' nb (Of v))) d.sz xs cs
section
variable {α : Type} {d : Rp α} {E : TypeId} {w w' : World} {base : Nat} {nb nb' : Nat → Prop} {v : Value} {xs : List α}
theorem Rp.Own.nil (d : Rp α) (E : TypeId) (w : World) (base : Nat) (nb : Nat → Prop) : d.Own E w base nb (.slice none 0 0) [] :=
  ⟨fun b h => by simp [Value.ownBlock] at h, [], World.ownsRow_nil _ _ _ _, Reps.nil _ _⟩
theorem Rp.Own.made (d : Rp α) (E : TypeId) (w : World) (cur : Array Value) (cap base : Nat) (nb : Nat → Prop) (hb : base ≤ w.heap.size) (hm : cap ≤ maxLen) (hs : cur.size = cap * d.sz) (hn : ¬ nb w.heap.size) :
    d.Own E (w.alloc (.cells cur E)) base nb (.slice (some ⟨w.heap.size, 0, none⟩) 0 cap) [] :=
  ⟨fun b h => by simp [Value.ownBlock] at h; subst h; exact hn, [], World.ownsRow_made w cur cap hb hm hs, Reps.nil _ _⟩
theorem Rp.Own.sl (h : d.Own E w base nb v xs) : d.Sl E w nb v xs := by
  obtain ⟨h0, cs, h1, h2⟩ := h
  exact ⟨cs, Slc.of_own h1 h0, h2.imp fun _ _ hx => d.weak hx fun _ _ k => .inl k⟩
theorem Rp.Own.lt (h : d.Own E w base nb v xs) {b : Nat} (hb : v.ownBlock = some b) : base ≤ b ∧ b < w.heap.size := by
  obtain ⟨_, cs, h1, _⟩ := h
  exact h1.lt b hb
/-- Another thing has happened: neither v's block nor anything outside nb has turned. -/
theorem Rp.Own.keep (h : d.Own E w base nb v xs) (k : Keeps nb w w') : d.Own E w' base nb v xs := by
  obtain ⟨h0, cs, h1, h2⟩ := h
  refine ⟨h0, cs, ?_, h2.imp fun _ _ hx => d.keep hx (k.mono fun _ _ => .inl)⟩
  refine ⟨h1.1, ?_⟩
  rcases h1.2 with hx | ⟨g, cap, cur, rfl, hb, hh, r⟩
  · exact .inl hx
  · exact .inr ⟨g, cap, cur, rfl, hb, k.obj hh (h0 g rfl), r⟩
theorem Rp.Own.weak (h : d.Own E w base nb v xs) (k : ∀ b, b < w.heap.size → nb' b → nb b) : d.Own E w base nb' v xs := by
  obtain ⟨h0, cs, h1, h2⟩ := h
  exact ⟨fun b hb x => h0 b hb (k b (h1.lt b hb).2 x), cs, h1, h2.imp fun _ _ hx => d.weak hx fun b hb y => y.imp (k b hb) id⟩
theorem Rp.Own.shape (h : d.Own E w base nb v xs) : ∃ A cap, v = .slice A xs.length cap ∧ xs.length ≤ cap ∧ cap ≤ maxLen := h.sl.shape
end
end Go.Proofs.Ythonibcfpojgpaa
