/-
  undo.Tree.Up.
-/
import Derived.Test.YthonibcfpojgpaaUTurn
import Derived.Test.YthonibcfpojgpaaUAdd
import Derived.BigQuiet
namespace Go.Proofs.Ythonibcfpojgpaa
open Go Go.RowKit
set_option linter.unusedVariables false

set_option maxRecDepth 100000 in
set_option maxHeartbeats 1000000 in
theorem left_calls {w : World} {base t m q wm s1 s0 k : Nat} {v kv1 kv0 : Value} {root here last p par0 next0 next1 : Int} {f : Int → Option Value} {l ks1 ks0 : List Int}
    (h : TreeAt w base t m q wm v root here last f k l) (h1 : StateAt w base s1 p kv1 ks1 next1) (h0 : StateAt w base s0 par0 kv0 ks0 next0) (hf1 : f here = some (.pointer (some ⟨s1, 0, none⟩))) (hf0 : f p = some (.pointer (some ⟨s0, 0, none⟩)))
    (hne : s0 ≠ s1) (hap : Apart kv0 v) (hwh : (ik here).wf = true) (hwp : (ik p).wf = true) :
    Calls Try.prog 83 #[.pointer (some ⟨t, 0, none⟩)] w fun e w' => (∃ A c, e = .returned (.slice A 0 c)) ∧
      TreeAt w' base t m q wm v root p last f k l ∧ StateAt w' base s0 par0 kv0 ks0 here ∧ Keeps (fun b => b = t ∨ b = s0) w w' := by
  obtain ⟨ht, t0, t1, t2, t3, t4, tz⟩ := h.cells
  obtain ⟨hs1, a0, a1, a2, a3, az⟩ := h1.cells
  obtain ⟨hs0, b0, b1, b2, b3, bz⟩ := h0.cells
  have hts1 : t ≠ s1 := cells_ne h.box h1.box (by decide)
  have hts0 : t ≠ s0 := cells_ne h.box h0.box (by decide)
  have hst0 : s0 ≠ t := hts0.symm
  have hst1 : s1 ≠ t := hts1.symm
  have hne' : s1 ≠ s0 := hne.symm
  have tz3 := tz 3
  have bz3 := bz 3
  have hl1 : ∀ n, (Instr.lookup 160 (.map (some m)) (.int .i64 here) false).run Try.prog (w.drewN n) = .ok (.pointer (some ⟨s1, 0, none⟩)) (w.drewN n) := fun n => ((h.heap (w' := w.drewN n) rfl).all.yes uMapAll (zState _) hwh hf1).1
  have hl0 : ∀ n, (Instr.lookup 160 (.map (some m)) (.int .i64 p) false).run Try.prog (w.drewN n) = .ok (.pointer (some ⟨s0, 0, none⟩)) (w.drewN n) := fun n => ((h.heap (w' := w.drewN n) rfl).all.yes uMapAll (zState _) hwp hf0).1
  go_enter Try.func83, Try.ntmps83
  go_wp2
  have hl1a : (Instr.lookup 160 (.map (some m)) (.int .i64 here) false).run Try.prog w.drew = .ok (.pointer (some ⟨s1, 0, none⟩)) w.drew := hl1 1
  refine region_tail 9 (by kernel_rfl) (by kernel_rfl) ?_
  simp only [List.take_succ_cons, List.take_zero, List.drop_succ_cons, List.drop_zero]
  repeat still_step
  refine wpStill_nil ?_
  go_wp2
  have hl0a : (Instr.lookup 160 (.map (some m)) (.int .i64 p) false).run Try.prog w.drew.drew = .ok (.pointer (some ⟨s0, 0, none⟩)) w.drew.drew := hl0 2
  refine region_tail 15 (by kernel_rfl) (by kernel_rfl) ?_
  simp only [List.take_succ_cons, List.take_zero, List.drop_succ_cons, List.drop_zero]
  repeat still_step
  refine wpStill_nil ?_
  have hT1 := (h.nextS h0 hap (.int .i64 here)).setHere p
  have hS1 := (h0.setNext here).keep (Keeps.setCell (nb := Just t) _ ⟨t, 3, none⟩ (.int .i64 p) rfl) (fun e => hst0 e) (fun b hb e => by
    obtain ⟨cs, hc⟩ := own_block h0.own hb
    exact cells_ne hc h.box (by decide) e)
  have hK1 : Keeps (fun b => b = t ∨ b = s0) w ((w.setCell ⟨s0, 3, none⟩ (.int .i64 here)).setCell ⟨t, 3, none⟩ (.int .i64 p)) := (Keeps.setCell _ _ _ (.inr rfl)).trans (Keeps.setCell _ _ _ (.inl rfl))
  have HH := Lib.hid (And.intro hT1 (And.intro hS1 hK1))
  clear hT1 hS1 hK1 hl0 hl1
  go_wp2_with (first
    | (go_at_call 143; go_must (refine (turn_calls _).mono ?_; rintro e2 w2 ⟨⟨A, c, rfl⟩, hk2⟩)))
  go_ret
  obtain ⟨hT1, hS1, hK1⟩ := HH.out
  have k2 : Keeps None' ((w.setCell ⟨s0, 3, none⟩ (.int .i64 here)).setCell ⟨t, 3, none⟩ (.int .i64 p)) w2 := ((Keeps.drew _ _).trans (Keeps.drew _ _)).trans hk2
  exact ⟨⟨_, _, rfl⟩, hT1.keep k2 (fun x => x) (fun x => x) (fun b x => x.elim), hS1.keep k2 (fun x => x) (fun b _ x => x), hK1.trans (k2.mono fun b _ x => x.elim)⟩

set_option maxRecDepth 100000 in
set_option maxHeartbeats 1000000 in
theorem up_calls {w : World} {base t m q wm s1 s0 k : Nat} {v kv1 kv0 : Value} {root here last p par0 next0 next1 : Int} {f : Int → Option Value} {l ks1 ks0 : List Int}
    (h : TreeAt w base t m q wm v root here last f k l) (h1 : StateAt w base s1 p kv1 ks1 next1) (h0 : StateAt w base s0 par0 kv0 ks0 next0) (hf1 : f here = some (.pointer (some ⟨s1, 0, none⟩))) (hf0 : f p = some (.pointer (some ⟨s0, 0, none⟩)))
    (hne : s0 ≠ s1) (hap : Apart kv0 v) (hwh : (ik here).wf = true) (hwp : (ik p).wf = true) (hr : here ≠ root) :
    Calls Try.prog 35 #[.pointer (some ⟨t, 0, none⟩)] w fun e w' => (∃ A c, e = .returned (.tuple #[.slice A 0 c, .bool true])) ∧
      TreeAt w' base t m q wm v root p last f k l ∧ StateAt w' base s0 par0 kv0 ks0 here ∧ Keeps (fun b => b = t ∨ b = s0) w w' := by
  obtain ⟨ht, t0, t1, t2, t3, t4, tz⟩ := h.cells
  have hd : (here == root) = false := by simpa using hr
  go_enter Try.func35, Try.ntmps35
  have HH := Lib.hid hr
  clear hr
  go_wp2
  go_quiet (fail)
  go_wp2_with (first
    | (go_at_call 83; go_must (refine (left_calls (w := w.drewN nq) (h.heap rfl) (h1.heap rfl) (h0.heap rfl) hf1 hf0 hne hap hwh hwp).mono ?_; rintro e2 w2 ⟨⟨A, c, rfl⟩, hT2, hS2, hk2⟩)))
  go_ret2
  exact ⟨⟨_, _, rfl⟩, hT2, hS2, (Keeps.drewN _ _ _).trans hk2⟩

set_option maxRecDepth 100000 in
/-- Parent, Next: of a state. -/
theorem parent_calls {w : World} {base t m q wm s k : Nat} {v kv : Value} {root here last p n next : Int} {f : Int → Option Value} {l ks : List Int}
    (h : TreeAt w base t m q wm v root here last f k l) (hs : StateAt w base s p kv ks next) (hf : f n = some (.pointer (some ⟨s, 0, none⟩))) (hw : (ik n).wf = true) (hp : p ≠ -1) :
    Calls Try.prog 40 #[.pointer (some ⟨t, 0, none⟩), .int .i64 n] w (Ret (.tuple #[.int .i64 p, .bool true]) w) := by
  obtain ⟨ht, t0, t1, t2, t3, t4, tz⟩ := h.cells
  obtain ⟨hs1, a0, a1, a2, a3, az⟩ := hs.cells
  have hl : ∀ n', (Instr.lookup 160 (.map (some m)) (.int .i64 n) false).run Try.prog (w.drewN n') = .ok (.pointer (some ⟨s, 0, none⟩)) (w.drewN n') := fun n' => ((h.heap (w' := w.drewN n') rfl).all.yes uMapAll (zState _) hw hf).1
  have hd : (p == -1) = false := by simpa using hp
  have hd2 : (p != -1) = true := by simpa using hp
  have hl0 : (Instr.lookup 160 (.map (some m)) (.int .i64 n) false).run Try.prog w = .ok (.pointer (some ⟨s, 0, none⟩)) w := hl 0
  clear hp
  go_enter Try.func40, Try.ntmps40
  go_wp2
  go_ret2
  exact Ret.mk rfl (Below.refl _ _)

set_option maxRecDepth 100000 in
theorem next_calls {w : World} {base t m q wm s k : Nat} {v kv : Value} {root here last p n next : Int} {f : Int → Option Value} {l ks : List Int}
    (h : TreeAt w base t m q wm v root here last f k l) (hs : StateAt w base s p kv ks next) (hf : f n = some (.pointer (some ⟨s, 0, none⟩))) (hw : (ik n).wf = true) (hp : next ≠ -1) :
    Calls Try.prog 41 #[.pointer (some ⟨t, 0, none⟩), .int .i64 n] w (Ret (.tuple #[.int .i64 next, .bool true]) w) := by
  obtain ⟨ht, t0, t1, t2, t3, t4, tz⟩ := h.cells
  obtain ⟨hs1, a0, a1, a2, a3, az⟩ := hs.cells
  have hd : (next == -1) = false := by simpa using hp
  have hd2 : (next != -1) = true := by simpa using hp
  have hl0 : (Instr.lookup 160 (.map (some m)) (.int .i64 n) false).run Try.prog w = .ok (.pointer (some ⟨s, 0, none⟩)) w := (h.all.yes uMapAll (zState _) hw hf).1
  clear hp
  go_enter Try.func41, Try.ntmps41
  go_wp2
  go_ret2
  exact Ret.mk rfl (Below.refl _ _)
theorem here_calls {w : World} {base t m q wm k : Nat} {v : Value} {root here last : Int} {f : Int → Option Value} {l : List Int} (h : TreeAt w base t m q wm v root here last f k l) :
    Calls Try.prog 32 #[.pointer (some ⟨t, 0, none⟩)] w (Ret (.int .i64 here) w) := by
  obtain ⟨ht, t0, t1, t2, t3, t4, tz⟩ := h.cells
  go_enter Try.func32, Try.ntmps32
  go_wp2
  go_ret
  exact Ret.mk rfl (Below.refl _ _)
theorem len_calls {w : World} {base t m q wm k : Nat} {v : Value} {root here last : Int} {f : Int → Option Value} {l : List Int} (h : TreeAt w base t m q wm v root here last f k l) :
    Calls Try.prog 28 #[.pointer (some ⟨t, 0, none⟩)] w (Ret (.int .i64 k) w) := by
  obtain ⟨ht, t0, t1, t2, t3, t4, tz⟩ := h.cells
  have hlen := h.all.len uMapAll
  go_enter Try.func28, Try.ntmps28
  go_wp2
  go_ret
  exact Ret.mk rfl (Below.refl _ _)
end Go.Proofs.Ythonibcfpojgpaa
