/-
  Chapter 21's example; and UndoNil's walk.
-/
import Derived.Test.YthonibcfpojgpaaUUp
import Derived.Test.YthonibcfpojgpaaUNil
namespace Go.Proofs.Ythonibcfpojgpaa
open Go Go.RowKit
set_option linter.unusedVariables false

theorem AB.old {w : World} {base t m q wm s k : Nat} {v kv : Value} {root here last parent next : Int} {f : Int → Option Value} {l ks : List Int}
    (h : TreeAt w base t m q wm v root here last f k l) (hs : StateAt w base s parent kv ks next) {b : Nat} (hb : AB t m q wm s v kv b) : base ≤ b := by
  rcases hb with rfl | rfl | rfl | hb | hb
  · exact h.old.1
  · exact h.old.2.1
  · exact hs.old
  · exact (h.que.blocks hb).1
  · exact (hs.own.lt hb).1
theorem Keeps.below0 {w w' : World} (h : Keeps None' w w') : Below w.heap.size w w' := h.toBelow (Nat.le_refl _) fun b x => x.elim

set_option maxRecDepth 100000 in
set_option maxHeartbeats 2000000 in
theorem awake_calls (w : World) : Calls Try.prog 34 #[] w (Ret (.bool true) w) := by
  go_enter Try.func34, Try.ntmps34
  go_wp2_with fail
  refine (unew_calls w).mono ?_
  rintro e1 w1 ⟨t, m, q, wm, v, s, rfl, hT1, hS1, hk1⟩
  have H1 := Lib.hid (And.intro hT1 (And.intro hS1 hk1))
  go_wp2_with fail
  refine (add_calls (last := 0) (l1 := []) hT1 hS1 rfl (fun b hb => by simp [Value.ownBlock] at hb) hk1.size (by decide) (by decide) (by decide) (by decide) (by decide) (.inl ⟨rfl, rfl⟩) (.inl rfl) (by simp) (by simp)).mono ?_
  rintro e2 w2 ⟨rfl, v2, s2, kv2, hT2, hS2, hS2', hs2, hap2, hk2⟩
  have hT2 : TreeAt w2 w.heap.size t m q wm v2 0 1 1 (fun n => if n = 1 then some (.pointer (some ⟨s2, 0, none⟩)) else if n = 0 then some (.pointer (some ⟨s, 0, none⟩)) else none) 2 [1] := hT2
  have hS2 : StateAt w2 w.heap.size s (-1) kv2 [1] 1 := hS2
  have hs12 : s ≠ s2 := fun e => by have := lt_of_block hS1.box; omega
  have H2 := Lib.hid (And.intro hs2 (And.intro hap2 hk2))
  clear hT1 hS1 hk1 hs2 hk2
  go_wp2_with fail
  refine (up_calls hT2 hS2' hS2 (by rfl) (by rfl) hs12 hap2 (by decide) (by decide) (by decide)).mono ?_
  rintro e3 w3 ⟨⟨A3, c3, rfl⟩, hT3, hS3, hk3⟩
  have H3 := Lib.hid (And.intro hT2 (And.intro hS2 (And.intro hS2' hk3)))
  have hb3 : w.heap.size ≤ w3.heap.size := Nat.le_trans hT3.old.1 (Nat.le_of_lt (lt_of_block hT3.box))
  clear hT2 hS2 hS2' hk3 hs12
  go_wp2_with fail
  refine (add_calls (last := 1) (l1 := [1]) hT3 hS3 (by rfl) hap2 hb3 (by decide) (by decide) (by decide) (by decide) (by decide) (.inr ⟨by simp, rfl⟩) (.inr ⟨1, rfl, by decide⟩) (by simp) (by simp)).mono ?_
  rintro e4 w4 ⟨rfl, v4, s4, kv4, hT4, hS4, hS4', hs4, hap4, hk4⟩
  have hT4 : TreeAt w4 w.heap.size t m q wm v4 0 2 2 (fun n => if n = 2 then some (.pointer (some ⟨s4, 0, none⟩)) else if n = 1 then some (.pointer (some ⟨s2, 0, none⟩)) else if n = 0 then some (.pointer (some ⟨s, 0, none⟩)) else none) 3 [1, 2] := hT4
  have hS4 : StateAt w4 w.heap.size s (-1) kv4 [1, 2] 2 := hS4
  have H4 := Lib.hid (And.intro hT3 (And.intro hS3 hk4))
  clear hT3 hS3 hap2 hs4 hap4 hk4
  go_wp2_with fail
  refine (parent_calls hT4 hS4' (n := 2) (by rfl) (by decide) (by decide)).mono ?_
  rintro e5 w5 ⟨rfl, hb5⟩
  have hT5 := hT4.keep (Keeps.below (nb := None') hb5) (fun x => x) (fun x => x) (fun b x => x.elim)
  have hS5 := hS4.keep (Keeps.below (nb := None') hb5) (fun x => x) (fun b _ x => x)
  clear hT4 hS4 hS4'
  go_wp2_with fail
  refine (next_calls hT5 hS5 (n := 0) (by rfl) (by decide) (by decide)).mono ?_
  rintro e6 w6 ⟨rfl, hb6⟩
  have hT6 := hT5.keep (Keeps.below (nb := None') hb6) (fun x => x) (fun x => x) (fun b x => x.elim)
  clear hT5 hS5
  go_wp2_with fail
  refine (here_calls hT6).mono ?_
  rintro e7 w7 ⟨rfl, hb7⟩
  have hT7 := hT6.keep (Keeps.below (nb := None') hb7) (fun x => x) (fun x => x) (fun b x => x.elim)
  clear hT6
  go_wp2_with fail
  refine (len_calls hT7).mono ?_
  rintro e8 w8 ⟨rfl, hb8⟩
  clear hT7
  go_wp2_with fail
  go_ret
  obtain ⟨hT1, hS1, hk1⟩ := H1.out
  obtain ⟨hs2, hap2, hk2⟩ := H2.out
  obtain ⟨hT2, hS2, hS2', hk3⟩ := H3.out
  obtain ⟨hT3, hS3, hk4⟩ := H4.out
  have k2 : Keeps None' w w2 := hk1.over hk2 fun i hi x => by have := AB.old hT1 hS1 x; omega
  have k3 : Keeps None' w w3 := k2.over hk3 fun i hi x => by
    rcases x with rfl | rfl
    · have := hT2.old.1; omega
    · have := hS2.old; omega
  have k4 : Keeps None' w w4 := k3.over hk4 fun i hi x => by have := AB.old hT3 hS3 x; omega
  have b5 : Keeps None' w w8 := (((k4.trans (Keeps.below hb5)).trans (Keeps.below hb6)).trans (Keeps.below hb7)).trans (Keeps.below hb8)
  exact Ret.mk rfl b5.below0

set_option maxRecDepth 100000 in
set_option maxHeartbeats 2000000 in
theorem undonil_calls (w : World) (n : Int) : Calls Try.prog 7 #[.int .i64 n] w (Ret (.bool true) w) := by
  go_enter Try.func7, Try.ntmps7
  go_wp2_with fail
  refine (nil_up _).mono ?_
  rintro e1 w1 ⟨rfl, hb1⟩
  unfold nilSl
  go_wp2_with fail
  refine (nil_down _).mono ?_
  rintro e2 w2 ⟨rfl, hb2⟩
  unfold nilSl
  go_wp2_with fail
  refine (nil_go _ _).mono ?_
  rintro e3 w3 ⟨rfl, hb3⟩
  unfold nilSl
  go_wp2_with fail
  refine (nil_older _).mono ?_
  rintro e4 w4 ⟨rfl, hb4⟩
  unfold nilSl
  go_wp2_with fail
  refine (nil_newer _).mono ?_
  rintro e5 w5 ⟨rfl, hb5⟩
  unfold nilSl
  go_wp2_with fail
  refine (nil_parent _ _).mono ?_
  rintro e6 w6 ⟨rfl, hb6⟩
  go_wp2_with fail
  refine (nil_next _ _).mono ?_
  rintro e7 w7 ⟨rfl, hb7⟩
  go_wp2_with fail
  refine (nil_add _ _).mono ?_
  rintro e8 w8 ⟨rfl, hb8⟩
  go_wp2_with fail
  refine (nil_here _).mono ?_
  rintro e9 w9 ⟨rfl, hb9⟩
  go_wp2_with fail
  refine (nil_len _).mono ?_
  rintro e10 w10 ⟨rfl, hb10⟩
  go_wp2_with fail
  refine (nil_numbers _).mono ?_
  rintro e11 w11 ⟨rfl, hb11⟩
  unfold nilSl
  go_wp2_with fail
  refine (awake_calls _).mono ?_
  rintro e12 w12 ⟨rfl, hb12⟩
  go_wp2_with fail
  go_ret
  have k : Keeps None' w w12 := (((((((((((Keeps.below hb1).trans (Keeps.below hb2)).trans (Keeps.below hb3)).trans (Keeps.below hb4)).trans (Keeps.below hb5)).trans (Keeps.below hb6)).trans (Keeps.below hb7)).trans (Keeps.below hb8)).trans (Keeps.below hb9)).trans (Keeps.below hb10)).trans (Keeps.below hb11)).trans (Keeps.below hb12)
  exact Ret.mk rfl k.below0
end Go.Proofs.Ythonibcfpojgpaa
