/-
  Maps that are keyed by an int, whatever their elements: what lies at each key; and the operations on them.
-/
import Derived.Test.YthonibcfpojgpaaData
import Derived.Maps.OwnSet
import Derived.WalkSpells
namespace Go.Proofs.Ythonibcfpojgpaa
open Go Go.RowKit
set_option linter.unusedVariables false

/-- An element reads as itself. -/
def R0 (v : Value) : Option (DataW Value × List MemPlace) := some (.held v, [])
def ik (n : Int) : Lit := .int .i64 n
theorem wf64 {n : Int} (h1 : -9223372036854775808 ≤ n) (h2 : n ≤ 9223372036854775807) : (ik n).wf = true := by
  simp [ik, Lit.wf, IntKind.min, IntKind.max, IntKind.bits, IntKind.signed, h1, h2]
theorem keyedInt : Maps.Keyed Try.prog 3 := Maps.int_keyed Try.underlying3
theorem keyInt {n : Int} (h : (ik n).wf = true) : keyOf Try.prog 3 (.int .i64 n) = some (ik n) := Maps.keyOf_int_mk Try.underlying3 h
theorem isKey (n : Int) : WideAt.IsKeyLit (ik n) := trivial

/-- Block b is a map of k entries, of which f says what lies at each key. -/
structure MapI (w : World) (b : Nat) (f : Int → Option Value) (k : Nat) : Prop where
  ex : ∃ D : DataW Value, w.ownsMap Try.prog 3 R0 b k D ∧ Maps.size D = k ∧ ∀ n, Maps.has D (ik n) = (f n).isSome ∧ ∀ v, f n = some v → ∀ z, D.atKey (ik n) z = .held v

section
variable {w w' : World} {b k : Nat} {f : Int → Option Value}
theorem owns_exact {P : Program} {K : TypeId} {R : Value → Option (DataW Value × List MemPlace)} {n : Nat} {D : DataW Value} (h : w.ownsMap P K R b n D) : w.ownsMap P K R b (Maps.size D) D := by
  obtain ⟨es, clock, hb, F, hs, rfl⟩ := h
  exact ⟨es, clock, hb, F, by simp [Maps.size, length_sorted], rfl⟩
theorem MapI.made (w : World) : MapI (w.alloc (.map #[] 0)) w.heap.size (fun _ => none) 0 :=
  ⟨⟨_, World.ownsMap_made w _ _ _, rfl, fun n => ⟨rfl, fun v h => by cases h⟩⟩⟩
theorem MapI.lt (h : MapI w b f k) : b < w.heap.size := by
  obtain ⟨D, h1, _⟩ := h.ex
  exact h1.lt
theorem MapI.keep {nb : Nat → Prop} (h : MapI w b f k) (hk : Keeps nb w w') (hn : ¬ nb b) : MapI w' b f k := by
  obtain ⟨D, ⟨es, clock, hb, r⟩, h2⟩ := h.ex
  exact ⟨⟨D, ⟨es, clock, hk.obj hb hn, r⟩, h2⟩⟩
theorem MapI.heap (h : MapI w b f k) (e : w'.heap = w.heap) : MapI w' b f k := by
  obtain ⟨D, ⟨es, clock, hb, r⟩, h2⟩ := h.ex
  exact ⟨⟨D, ⟨es, clock, by rw [e]; exact hb, r⟩, h2⟩⟩
theorem MapI.to (h : MapI w b f k) {g : Int → Option Value} (e : ∀ n, g n = f n) {k' : Nat} (ek : k' = k) : MapI w b g k' := by
  obtain rfl : g = f := funext e
  subst ek
  exact h
theorem MapI.obj (h : MapI w b f k) : ∃ es clock, w.heap[b]? = some (.map es clock) := by
  obtain ⟨D, ⟨es, clock, hb, _⟩, _⟩ := h.ex
  exact ⟨es, clock, hb⟩
/-- m[n], where something lies. -/
theorem MapI.yes (h : MapI w b f k) {t e : TypeId} (ht : Try.prog.underlying t = some (.map 3 e)) {z : Value} (hz : (zeroValue e).run Try.prog w = .ok z w) {n : Int} (hn : (ik n).wf = true) {v : Value} (hv : f n = some v) :
    (Instr.lookup t (.map (some b)) (.int .i64 n) false).run Try.prog w = .ok v w ∧ (Instr.lookup t (.map (some b)) (.int .i64 n) true).run Try.prog w = .ok (.tuple #[v, .bool true]) w := by
  obtain ⟨D, h1, _, h2⟩ := h.ex
  obtain ⟨h3, h4⟩ := h2 n
  obtain ⟨u, ps, hr, hu⟩ := h1.lookup keyedInt ht hz (show R0 z = some (.held z, []) from rfl) (keyInt hn)
  obtain ⟨u', ps', hr', hu'⟩ := h1.look_ok keyedInt ht hz (show R0 z = some (.held z, []) from rfl) (keyInt hn)
  rw [h4 v hv] at hu hu'
  simp only [R0, Option.some.injEq, Prod.mk.injEq, DataW.held.injEq] at hu hu'
  obtain ⟨rfl, _⟩ := hu
  obtain ⟨rfl, _⟩ := hu'
  rw [h3, hv] at hr'
  exact ⟨hr, hr'⟩
/-- m[n], where nothing lies. -/
theorem MapI.no (h : MapI w b f k) {t e : TypeId} (ht : Try.prog.underlying t = some (.map 3 e)) {z : Value} (hz : (zeroValue e).run Try.prog w = .ok z w) {n : Int} (hn : (ik n).wf = true) (hv : f n = none) :
    (Instr.lookup t (.map (some b)) (.int .i64 n) false).run Try.prog w = .ok z w ∧ (Instr.lookup t (.map (some b)) (.int .i64 n) true).run Try.prog w = .ok (.tuple #[z, .bool false]) w := by
  obtain ⟨D, h1, _, h2⟩ := h.ex
  obtain ⟨h3, h4⟩ := h2 n
  rw [hv] at h3
  obtain ⟨u, ps, hr, hu⟩ := h1.lookup keyedInt ht hz (show R0 z = some (.held z, []) from rfl) (keyInt hn)
  obtain ⟨u', ps', hr', hu'⟩ := h1.look_ok keyedInt ht hz (show R0 z = some (.held z, []) from rfl) (keyInt hn)
  rw [Maps.atKey_of_not_has h3] at hu hu'
  simp only [R0, Option.some.injEq, Prod.mk.injEq, DataW.held.injEq] at hu hu'
  obtain ⟨rfl, _⟩ := hu
  obtain ⟨rfl, _⟩ := hu'
  rw [h3] at hr'
  exact ⟨hr, hr'⟩
theorem MapI.len (h : MapI w b f k) {t e : TypeId} (ht : Try.prog.underlying t = some (.map 3 e)) (ty : TypeId) : (Builtin.len_ #[t] ty #[.map (some b)]).run Try.prog w = .ok (.int .i64 k) w := by
  obtain ⟨D, h1, h2, _⟩ := h.ex
  rw [← h2]
  exact h1.len ht ty
/-- m[n] = v. -/
theorem MapI.store (h : MapI w b f k) {t e : TypeId} (ht : Try.prog.underlying t = some (.map 3 e)) (hk : k < maxLen) {n : Int} (hn : (ik n).wf = true) (v : Value) :
    ∃ w', (Instr.mapUpdate t (.map (some b)) (.int .i64 n) v).run Try.prog w = .ok () w' ∧ MapI w' b (fun m => if m = n then some v else f m) (if (f n).isSome then k else k + 1) ∧ Keeps (Just b) w w' := by
  obtain ⟨D, h1, h2, h3⟩ := h.ex
  obtain ⟨w', hr, ho, hg⟩ := h1.store keyedInt ht hk (keyInt hn) (show R0 v = some (.held v, []) from rfl)
  have hs : Maps.size (D.put (ik n) (.held v)) = if (f n).isSome then k else k + 1 := by
    rw [Maps.size_put (h1.tidy keyedInt), (h3 n).1, h2]
  refine ⟨w', hr, ⟨⟨_, by rw [← hs]; exact owns_exact ho, hs, fun m => ?_⟩⟩, Keeps.grown hg.grown fun b' e => by cases e; rfl⟩
  by_cases hm : m = n
  · subst hm
    rw [if_pos rfl]
    exact ⟨Maps.has_put_same h1.isMap (isKey _) _, fun u hu z => by cases hu; exact Maps.atKey_put_same h1.isMap (isKey _) _ _⟩
  · have hne : ik m ≠ ik n := fun e => hm (by simpa [ik] using e)
    rw [if_neg hm]
    refine ⟨(Maps.has_put_other hne _).trans (h3 m).1, fun u hu z => ?_⟩
    rw [Maps.atKey_put_other hne]
    exact (h3 m).2 u hu z
/-- delete(m, n). -/
theorem MapI.drop (h : MapI w b f k) {t e : TypeId} (ht : Try.prog.underlying t = some (.map 3 e)) {n : Int} (hn : (ik n).wf = true) (ty : TypeId) :
    ∃ w', (Builtin.delete_ #[t, 3] ty #[.map (some b), .int .i64 n]).run Try.prog w = .ok (.tuple #[]) w' ∧ MapI w' b (fun m => if m = n then none else f m) (if (f n).isSome then k - 1 else k) ∧ Keeps (Just b) w w' := by
  obtain ⟨D, h1, h2, h3⟩ := h.ex
  obtain ⟨w', hr, ho, hg⟩ := h1.drop keyedInt ht (keyInt hn) ty
  have hs : Maps.size (D.del (ik n)) = if (f n).isSome then k - 1 else k := by
    have := Maps.size_del (k := ik n) (h1.tidy keyedInt)
    rw [(h3 n).1, h2] at this
    split <;> simp_all <;> omega
  refine ⟨w', hr, ⟨⟨_, by rw [← hs]; exact owns_exact ho, hs, fun m => ?_⟩⟩, Keeps.grown hg.grown fun b' e => by cases e; rfl⟩
  by_cases hm : m = n
  · subst hm
    rw [if_pos rfl]
    exact ⟨Maps.has_del_same, fun u hu => by cases hu⟩
  · have hne : ik m ≠ ik n := fun e => hm (by simpa [ik] using e)
    rw [if_neg hm]
    refine ⟨(Maps.has_del_other hne).trans (h3 m).1, fun u hu z => ?_⟩
    rw [Maps.atKey_del_other hne]
    exact (h3 m).2 u hu z
end
end Go.Proofs.Ythonibcfpojgpaa
