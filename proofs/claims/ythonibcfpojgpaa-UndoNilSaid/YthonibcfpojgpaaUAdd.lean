/-
  undo.Tree.Add of nothing, where the tree is small.
-/
import Derived.Test.YthonibcfpojgpaaUndo
import Derived.Deep.RegionHeld3
import Derived.Lib.SliceRun
import Derived.Deep.RegionLaw
import Derived.Deep.AppendLies
namespace Go.Proofs.Ythonibcfpojgpaa
open Go Go.RowKit
set_option linter.unusedVariables false

section
variable {α : Type} {P : Program} {ops : Array Oper} {o : Oper} {a : Act} {K : Act → World → Prop} {Q : Exit → Act → World → Prop} {E' : Prop} {W W' : World}
/-- append(v, x) in a region that draws: the element's cells lie in the block that was laid last. -/
theorem step_append1 (d : Rp α) (hgd : o.guard = none) (s x : Operand) (t E : TypeId) (z : Value) (bytes : Nat)
    (ho : o.op = .call { callee := .builtin .append, args := #[s, x], argTypes := #[t, t] })
    (ht : P.underlying t = some (.slice E)) (hinfo : (P.info? E).map (fun i => (i.zero, i.size, i.bytes)) = some (some z, d.sz, bytes)) (hz : z.cells.size = d.sz) (hs0 : 0 < d.sz)
    (base : Nat) (nb : Nat → Prop) (v : Value) (xs : List α) (x0 : α) (cs : List Value) (hs : a.eval s = v) (hx : a.eval x = .slice (some ⟨W.heap.size, 0, none⟩) 1 1)
    (HO : d.Own E W base nb v xs) (hp : d.r W (Or' nb (Of v)) x0 cs) (hbase : base ≤ W.heap.size) (hnb : ∀ b, nb b → b < W.heap.size)
    (hl : (xs.length + 1) * bytes ≤ 140737488355328) (hl2 : xs.length + 1 ≤ 140737488355328) (hW : W' = W.alloc (.cells cs.toArray E))
    (h : ∀ v1 w1, d.Own E w1 base nb v1 (xs ++ [x0]) → W.grownBy w1 v.ownBlock → (v1.ownBlock = v.ownBlock ∨ ∃ b, v1.ownBlock = some b ∧ W.heap.size ≤ b) → K (a.put o.dst v1) w1) :
    if Region.wanted o (yielded ops a.tmps) = true then Oper.wp P o a W' K Q else E' := by
  subst hW
  have hw : Region.wanted o (yielded ops a.tmps) = true := by simp [Region.wanted, hgd]
  rw [if_pos hw]
  have hk : ∀ nb, Keeps nb W (W.alloc (.cells cs.toArray E)) := fun nb => Keeps.alloc nb W _
  obtain ⟨v1, w1, hrun, hown, hg, hat⟩ := run_append_Own (P := P) (W := W.alloc (.cells cs.toArray E)) d t o.type E z bytes ht hinfo hz hs0 base nb v xs [x0] cs ⟨W.heap.size, 0, none⟩ 1 1
    (HO.keep (hk _)) rfl (.one (d.keep hp (hk _)) (d.len hp)) (fun j u hu => by
      have : (⟨W.heap.size, 0, none⟩ : Addr).add j = ⟨W.heap.size, j, none⟩ := by unfold Addr.add; split <;> simp_all
      rw [this, World.cell?_alloc_new]
      simpa using hu) (d.one hp) (by simp; omega) (fun b hb => by have := hnb b hb; simp; omega) (by simpa using hl) (by simpa using hl2)
  unfold Oper.wp execOp
  simp only [ho, resolve, invoke, builtin, Sem.run_bind, Sem.run_pure, Result.andThen_ok, List.map_toArray, List.map_cons, List.map_nil, hs, hx, hrun]
  exact h v1 w1 hown ((World.grownBy_alloc W _ _).trans hg) (hat.imp id fun e => ⟨_, e, by simp⟩)
end

/-- The blocks that Add writes. -/
def AB (t m q wm s : Nat) (v kv : Value) : Nat → Prop := fun b => b = t ∨ b = m ∨ b = s ∨ QB q wm v b ∨ Of kv b

section
variable {w w' : World} {base t m q wm s k : Nat} {v kv : Value} {root here last parent next : Int} {f : Int → Option Value} {l ks : List Int}
theorem TreeAt.ne (h : TreeAt w base t m q wm v root here last f k l) : t ≠ m ∧ t ≠ q ∧ t ≠ wm ∧ m ≠ q ∧ m ≠ wm ∧ v.ownBlock ≠ some t ∧ v.ownBlock ≠ some m := by
  refine ⟨map_ne h.box h.all, cells_ne h.box h.que.box (by decide), map_ne h.box h.que.map, (map_ne h.que.box h.all).symm, h.old.2.2, fun e => ?_, fun e => ?_⟩
  · obtain ⟨cs, hc⟩ := own_block h.que.own e
    exact cells_ne hc h.box (by decide) rfl
  · obtain ⟨cs, hc⟩ := own_block h.que.own e
    exact map_ne hc h.all rfl
theorem TreeAt.setLast (h : TreeAt w base t m q wm v root here last f k l) (x : Int) : TreeAt (w.setCell ⟨t, 4, none⟩ (.int .i64 x)) base t m q wm v root here x f k l := by
  obtain ⟨e1, e2, e3, e4, e5, e6, e7⟩ := h.ne
  have hk : Keeps (Just t) w (w.setCell ⟨t, 4, none⟩ (.int .i64 x)) := Keeps.setCell _ _ _ rfl
  exact ⟨heap_setCell_same w t 4 _ _ _ h.box, h.all.keep hk fun e => e1 e.symm, h.que.keep hk fun b hb hq => by cases hb; rcases hq with hq | hq | hq; exact e2 hq; exact e3 hq; exact e6 hq, h.old⟩
theorem TreeAt.setHere (h : TreeAt w base t m q wm v root here last f k l) (x : Int) : TreeAt (w.setCell ⟨t, 3, none⟩ (.int .i64 x)) base t m q wm v root x last f k l := by
  obtain ⟨e1, e2, e3, e4, e5, e6, e7⟩ := h.ne
  have hk : Keeps (Just t) w (w.setCell ⟨t, 3, none⟩ (.int .i64 x)) := Keeps.setCell _ _ _ rfl
  exact ⟨heap_setCell_same w t 3 _ _ _ h.box, h.all.keep hk fun e => e1 e.symm, h.que.keep hk fun b hb hq => by cases hb; rcases hq with hq | hq | hq; exact e2 hq; exact e3 hq; exact e6 hq, h.old⟩
theorem StateAt.ne (h : StateAt w base s parent kv ks next) : kv.ownBlock ≠ some s := fun e => by
  obtain ⟨cs, hc⟩ := own_block h.own e
  exact cells_ne hc h.box (by decide) rfl
theorem StateAt.setNext (h : StateAt w base s parent kv ks next) (x : Int) : StateAt (w.setCell ⟨s, 3, none⟩ (.int .i64 x)) base s parent kv ks x := by
  refine ⟨heap_setCell_same w s 3 _ _ _ h.box, ?_, h.old⟩
  obtain ⟨_, cs, h1, h2⟩ := h.own
  have ho : (rInt .i64).Own 3 w base (Just s) kv ks := ⟨fun b hb x => h.ne (x ▸ hb), cs, h1, h2.imp fun _ _ hx => hx⟩
  exact (ho.keep (Keeps.setCell _ ⟨s, 3, none⟩ _ rfl)).weak fun _ _ x => x.elim
theorem StateAt.kids {w1 : World} {x : Int} {v1 : Value} (h : StateAt w base s parent kv ks next) (ho : (rInt .i64).Own 3 w1 base None' v1 (ks ++ [x])) (hg : w.grownBy w1 kv.ownBlock) :
    StateAt (w1.setCell ⟨s, 2, none⟩ v1) base s parent v1 (ks ++ [x]) next := by
  have hb1 : w1.heap[s]? = some (.cells #[.int .i64 parent, .slice none 0 0, kv, .int .i64 next] 159 (0, 0)) := (hg.block s (lt_of_block h.box) (fun e => h.ne e.symm)).trans h.box
  refine ⟨heap_setCell_same w1 s 2 _ _ _ hb1, ?_, h.old⟩
  have hne : v1.ownBlock ≠ some s := fun e => by
    obtain ⟨cs, hc⟩ := own_block ho e
    exact cells_ne hc hb1 (by decide) rfl
  obtain ⟨_, cs, h1, h2⟩ := ho
  have ho : (rInt .i64).Own 3 w1 base (Just s) v1 (ks ++ [x]) := ⟨fun b hb x => hne (x ▸ hb), cs, h1, h2.imp fun _ _ hx => hx⟩
  exact (ho.keep (Keeps.setCell _ ⟨s, 2, none⟩ _ rfl)).weak fun _ _ x => x.elim
end

section
variable {w w' : World} {base t m q wm s k : Nat} {v kv : Value} {root here last parent next : Int} {f : Int → Option Value} {l l1 ks : List Int}
theorem apart_state (hT : TreeAt w base t m q wm v root here last f k l) (hS : StateAt w base s parent kv ks next) (hap : Apart kv v) : ∀ b, (b = s ∨ kv.ownBlock = some b) → b ≠ t ∧ b ≠ m ∧ ¬ QB q wm v b := by
  intro b hb
  obtain ⟨cs, E, hc, hE⟩ : ∃ cs E, w.heap[b]? = some (.cells cs E (0, 0)) ∧ (E = 159 ∨ E = 3) := by
    rcases hb with rfl | hb
    · exact ⟨_, _, hS.box, .inl rfl⟩
    · obtain ⟨cs, hc⟩ := own_block hS.own hb
      exact ⟨_, _, hc, .inr rfl⟩
  refine ⟨cells_ne hc hT.box (by rcases hE with rfl | rfl <;> decide), map_ne hc hT.all, fun x => ?_⟩
  rcases x with x | x | x
  · exact cells_ne hc hT.que.box (by rcases hE with rfl | rfl <;> decide) x
  · exact map_ne hc hT.que.map x
  · rcases hb with rfl | hb
    · obtain ⟨ds, hd⟩ := own_block hT.que.own x
      exact cells_ne hd hS.box (by decide) rfl
    · exact hap b hb x
theorem TreeAt.kids {w1 : World} (hT : TreeAt w base t m q wm v root here last f k l) (hS : StateAt w base s parent kv ks next) (hap : Apart kv v) (hg : w.grownBy w1 kv.ownBlock) (u : Value) :
    TreeAt (w1.setCell ⟨s, 2, none⟩ u) base t m q wm v root here last f k l ∧ Keeps (fun b => b = s ∨ kv.ownBlock = some b) w (w1.setCell ⟨s, 2, none⟩ u) := by
  have hk : Keeps (fun b => b = s ∨ kv.ownBlock = some b) w (w1.setCell ⟨s, 2, none⟩ u) := (Keeps.grown hg fun b e => .inr e).trans (Keeps.setCell _ _ _ (.inl rfl))
  have ha := apart_state hT hS hap
  exact ⟨hT.keep hk (fun x => (ha _ x).1 rfl) (fun x => (ha _ x).2.1 rfl) fun b x => (ha b x).2.2, hk⟩
theorem TreeAt.nextS (hT : TreeAt w base t m q wm v root here last f k l) (hS : StateAt w base s parent kv ks next) (hap : Apart kv v) (u : Value) : TreeAt (w.setCell ⟨s, 3, none⟩ u) base t m q wm v root here last f k l := by
  have hk : Keeps (fun b => b = s ∨ kv.ownBlock = some b) w (w.setCell ⟨s, 3, none⟩ u) := Keeps.setCell _ _ _ (.inl rfl)
  have ha := apart_state hT hS hap
  exact hT.keep hk (fun x => (ha _ x).1 rfl) (fun x => (ha _ x).2.1 rfl) fun b x => (ha b x).2.2
theorem TreeAt.newQue {v' : Value} (hT : TreeAt w base t m q wm v root here last f k l) (hq : QueAt w' base q wm v' l1) (hk : Keeps (QB q wm v) w w') : TreeAt w' base t m q wm v' root here last f k l1 := by
  obtain ⟨e1, e2, e3, e4, e5, e6, e7⟩ := hT.ne
  exact ⟨hk.obj hT.box fun x => x.elim e2 fun x => x.elim e3 e6, hT.all.keep hk fun x => x.elim e4 fun x => x.elim e5 e7, hq, hT.old⟩
theorem StateAt.que (hS : StateAt w base s parent kv ks next) (hT : TreeAt w base t m q wm v root here last f k l) (hap : Apart kv v) (hk : Keeps (QB q wm v) w w') : StateAt w' base s parent kv ks next := by
  have ha := apart_state hT hS hap
  exact hS.keep hk (ha s (.inl rfl)).2.2 fun b hb => (ha b (.inr hb)).2.2
/-- Drop, where nothing is to be moved. -/
theorem drop_calls {n : Int} (h : QueAt w base q wm v l) (hw : (ik n).wf = true) (hd : (l = [n] ∧ l1 = []) ∨ (n ∉ l ∧ l1 = l)) :
    Calls Try.prog 72 #[.pointer (some ⟨q, 0, none⟩), .int .i64 n] w fun e w' => ∃ b v', e = .returned (.bool b) ∧ QueAt w' base q wm v' l1 ∧ Keeps (QB q wm v) w w' ∧ v'.ownBlock = v.ownBlock := by
  rcases hd with ⟨rfl, rfl⟩ | ⟨hn, rfl⟩
  · refine (drop_one h hw).mono ?_
    rintro e w1 ⟨rfl, v', h1, h2, h3⟩
    exact ⟨_, v', rfl, h1, h2, h3⟩
  · refine (drop_no h hn hw).mono ?_
    rintro e w1 ⟨rfl, hb⟩
    exact ⟨_, v, rfl, h.keep (Keeps.below (nb := None') hb) (fun b x => x.elim), Keeps.below hb, rfl⟩
theorem clone_nil (w : World) : Calls Try.prog 74 #[.slice none 0 0] w fun e w' => e = .returned (.slice none 0 0) ∧ w' = w := by
  have qT : ∀ (w : World) (a : Option Addr) (n c n' c' : Nat), (binOp .eql 95 (.slice a n c) (.slice none n' c')).run Try.prog w = .ok (.bool a.isNone) w := fun w a n c n' c' => Lib.run_eql_slice_nil w _ _ a n c n' c' Try.underlying95
  go_enter Try.func74, Try.ntmps74
  go_wp2
  go_ret
  exact ⟨rfl, rfl⟩
end

set_option maxRecDepth 100000 in
set_option maxHeartbeats 1000000 in
theorem add_calls {w : World} {base t m q wm s k : Nat} {v kv : Value} {root here last parent next : Int} {f : Int → Option Value} {l l1 ks : List Int}
    (h : TreeAt w base t m q wm v root here last f k l) (hs : StateAt w base s parent kv ks next) (hf : f here = some (.pointer (some ⟨s, 0, none⟩))) (hap : Apart kv v)
    (hb : base ≤ w.heap.size) (hwh : (ik here).wf = true) (hl0 : 0 ≤ last) (hl1 : last ≤ 1000) (hk : k ≤ 30) (hks : ks.length ≤ 1000)
    (hdrop : (l = [here] ∧ l1 = []) ∨ (here ∉ l ∧ l1 = l)) (hput : l1 = [] ∨ ∃ a, l1 = [a] ∧ a ≤ last + 1) (hnew : last + 1 ∉ l1) (hfn : f (last + 1) = none) :
    Calls Try.prog 25 #[.pointer (some ⟨t, 0, none⟩), .slice none 0 0] w fun e w' => e = .returned (.int .i64 (last + 1)) ∧ ∃ v' s' kv',
      TreeAt w' base t m q wm v' root (last + 1) (last + 1) (fun n => if n = last + 1 then some (.pointer (some ⟨s', 0, none⟩)) else f n) (k + 1) (l1 ++ [last + 1]) ∧
      StateAt w' base s parent kv' (ks ++ [last + 1]) (last + 1) ∧ StateAt w' base s' here (.slice none 0 0) [] (-1) ∧ w.heap.size ≤ s' ∧ Apart kv' v' ∧ Keeps (AB t m q wm s v kv) w w' := by
  obtain ⟨ht, t0, t1, t2, t3, t4, tz⟩ := h.cells
  obtain ⟨hs0, s0, s1, s2, s3, sz⟩ := hs.cells
  obtain ⟨A, c, rfl, hkc, hkm⟩ := hs.own.shape
  have hts : t ≠ s := cells_ne h.box hs.box (by decide)
  have hst : s ≠ t := hts.symm
  have tz4 := tz 4
  have tz3 := tz 3
  have sz2 := sz 2
  have sz3 := sz 3
  have hw1 : IntKind.i64.wrap (last + 1) = last + 1 := IntWalk.i64_in _ (by omega)
  have hlook : (Instr.lookup 160 (.map (some m)) (.int .i64 here) false).run Try.prog (w.setCell ⟨t, 4, none⟩ (.int .i64 (last + 1))).drew = .ok (.pointer (some ⟨s, 0, none⟩)) (w.setCell ⟨t, 4, none⟩ (.int .i64 (last + 1))).drew :=
    (((h.all.keep (Keeps.setCell (nb := Just t) w ⟨t, 4, none⟩ (.int .i64 (last + 1)) rfl) (fun e => map_ne h.box h.all e.symm)).heap (w' := (w.setCell ⟨t, 4, none⟩ (.int .i64 (last + 1))).drew) rfl).yes uMapAll (zState _) hwh hf).1
  go_enter Try.func25, Try.ntmps25
  go_wp2
  refine region_tail 9 (by kernel_rfl) (by kernel_rfl) ?_
  simp only [List.take_succ_cons, List.take_zero, List.drop_succ_cons, List.drop_zero]
  repeat still_step
  refine wpStill_nil ?_
  go_wp2
  have hT1 : TreeAt (w.setCell ⟨t, 4, none⟩ (.int .i64 (last + 1))).drew base t m q wm v root here (last + 1) f k l := (h.setLast (last + 1)).heap rfl
  have hS1 : StateAt (w.setCell ⟨t, 4, none⟩ (.int .i64 (last + 1))).drew base s parent (.slice A ks.length c) ks next := (hs.keep (Keeps.setCell (nb := Just t) w ⟨t, 4, none⟩ _ rfl) (fun e => hst e) (fun b hb e => by
    obtain ⟨cs, hc⟩ := own_block hs.own hb
    exact cells_ne hc h.box (by decide) e)).heap rfl
  have hK1 : Keeps (AB t m q wm s v (.slice A ks.length c)) w (w.setCell ⟨t, 4, none⟩ (.int .i64 (last + 1))).drew := (Keeps.setCell (nb := AB t m q wm s v (.slice A ks.length c)) w ⟨t, 4, none⟩ _ (.inl rfl)).trans (Keeps.drew _ _)
  generalize (w.setCell ⟨t, 4, none⟩ (.int .i64 (last + 1))).drew = W1 at *
  have H1 := Lib.hid (And.intro h (And.intro hs (And.intro hK1 (And.intro hdrop (And.intro hput (And.intro hnew (And.intro hfn (And.intro hap hf))))))))
  obtain ⟨ht', t0', t1', t2', t3', t4', tz'⟩ := hT1.cells
  obtain ⟨hs0', s0', s1', s2', s3', sz'⟩ := hS1.cells
  have hb1 := Nat.le_trans hb hK1.size
  clear h hs hK1 hdrop hput hnew hfn hap hf t0 t1 t2 t3 t4 tz s0 s1 s2 s3 sz tz4 tz3 sz2 sz3 hlook ht hs0
  generalize hL : ks.length = L at *
  have HL := Lib.hid hL
  have hlL : (ks.length + 1) * 8 ≤ 140737488355328 := by omega
  have hlL2 : ks.length + 1 ≤ 140737488355328 := by omega
  clear hL
  have hownK := hS1.own
  have hp : (rInt .i64).r W1.drew (Or' None' (Of (.slice A L c))) (last + 1) [.int .i64 (last + 1)] := rfl
  have hns : (Value.slice A L c).ownBlock ≠ some s := hS1.ne
  have hnt : (Value.slice A L c).ownBlock ≠ some t := fun e => by
    obtain ⟨cs, hc⟩ := own_block hS1.own e
    exact cells_ne hc hT1.box (by decide) rfl
  have hne1 := World.new_ne W1 _ s2'
  have hne2 := World.new_ne W1 _ t4'
  go_region_law
    ((refine step_append1 (W := W1.drew) (rInt .i64) (by rfl) (.tmp 28) (.tmp 33) 67 3 _ 8 (by rfl) uSlInt iInt rfl (by decide) base None' (.slice A L c) ks (last + 1) [.int .i64 (last + 1)] (by rfl) (by rfl) hownK hp hb1 (fun b hb => hb.elim) hlL hlL2 (by rfl) ?_; intro v1 w1 hown1 hg1 hat1; obtain ⟨A1, c1, rfl, hcv1, hmv1⟩ := hown1.shape; have z1 : w1.frozen? ⟨s, 2, none⟩ = false := (World.frozen?_of_block (w := W1.drew) (hg1.block s hs0' (fun e => hns e.symm))).trans (sz' 2); have y1 := hg1.cell (w := W1.drew) (a := ⟨s, 2, none⟩) s2' (fun e => hns e.symm)))
  all_goals
    obtain ⟨h, hs, hK1, hdrop, hput, hnew, hfn, hap, hf⟩ := H1.out
    obtain rfl := HL.out
    have hT2 := (hT1.heap (w' := W1.drew) rfl).kids (hS1.heap (w' := W1.drew) rfl) hap (w1 := w1) hg1 (.slice A1 (ks.length + 1) c1)
    rw [show (ks ++ [last + 1]).length = ks.length + 1 by simp] at *
    have hS2 := (hS1.heap (w' := W1.drew) rfl).kids (w1 := w1) hown1 hg1
    obtain ⟨hT2, hK2⟩ := hT2
    have hap2 : Apart (.slice A1 (ks.length + 1) c1) v := fun b hb hv => by
      rcases hat1 with e | ⟨b', e, hle⟩
      · exact hap b (e.symm.trans hb) hv
      · rw [e] at hb
        cases hb
        have := (hT1.que.blocks (.inr (.inr hv))).2
        have : W1.drew.heap.size = W1.heap.size := rfl
        omega
    generalize (w1.setCell ⟨s, 2, none⟩ (.slice A1 (ks.length + 1) c1)) = W2 at *
    clear hne1 hne2 hns hnt z1 y1 hp hownK hown1 hg1 hat1 hT1 hS1 s0' s1' s2' s3' sz' t0' t1' t2' t3' t4' tz' ht' hs0' hcv1 hmv1 hf
    obtain ⟨ht2, t0, t1, t2, t3, t4, tz⟩ := hT2.cells
    obtain ⟨hs2, s0, s1, s2, s3, sz⟩ := hS2.cells
    have sz3 := sz 3
    have hT3 := hT2.nextS hS2 hap2 (.int .i64 (last + 1))
    have hS3 := hS2.setNext (last + 1)
    have hK3 : Keeps (Just s) W2 (W2.setCell ⟨s, 3, none⟩ (.int .i64 (last + 1))) := Keeps.setCell _ _ _ rfl
    have H2 := Lib.hid (And.intro h (And.intro hs (And.intro hK1 (And.intro hdrop (And.intro hput (And.intro hnew (And.intro hfn (And.intro hap (And.intro hK2 (And.intro hap2 (And.intro hT3 (And.intro hS3 hK3))))))))))))
    clear h hs hK1 hdrop hput hnew hfn hap hK2 hap2 hT3 hS3 hK3 hT2 hS2 H1
    go_wp2
    have hT3 := H2.out.2.2.2.2.2.2.2.2.2.2.1
    have hS3 := H2.out.2.2.2.2.2.2.2.2.2.2.2.1
    have hap2 := H2.out.2.2.2.2.2.2.2.2.2.1
    have hdrop := H2.out.2.2.2.1
    generalize (W2.setCell ⟨s, 3, none⟩ (.int .i64 (last + 1))) = W3 at *
    clear t0 t1 t2 t3 t4 tz s0 s1 s2 s3 sz sz3 ht2 hs2
    obtain ⟨ht3, t0, t1, t2, t3, t4, tz⟩ := hT3.cells
    have hT3' : TreeAt W3.drew base t m q wm v root here (last + 1) f k l := hT3.heap rfl
    have hS3' : StateAt W3.drew base s parent (.slice A1 (ks.length + 1) c1) (ks ++ [last + 1]) (last + 1) := hS3.heap rfl
    refine region_tail 8 (by kernel_rfl) (by kernel_rfl) ?_
    simp only [List.take_succ_cons, List.take_zero, List.drop_succ_cons, List.drop_zero]
    repeat still_step
    refine wpStill_nil ?_
    go_wp2_with (first
      | (go_at_call 72; go_must (refine (drop_calls (w := W3.drew) hT3'.que hwh hdrop).mono ?_; rintro e4 w4 ⟨b4, v4, rfl, hq4, hk4, hv4⟩)))
    have hT4 := hT3'.newQue hq4 hk4
    have hS4 := hS3'.que hT3' hap2 hk4
    have hap4 : Apart (.slice A1 (ks.length + 1) c1) v4 := fun b hb hv => hap2 b hb (hv4.symm.trans hv)
    clear t0 t1 t2 t3 t4 tz ht3
    obtain ⟨ht4, t0, t1, t2, t3, t4, tz⟩ := hT4.cells
    have hT4' : TreeAt w4.drew base t m q wm v4 root here (last + 1) f k l1 := hT4.heap rfl
    have hS4' : StateAt w4.drew base s parent (.slice A1 (ks.length + 1) c1) (ks ++ [last + 1]) (last + 1) := hS4.heap rfl
    have hb4 : base ≤ w4.heap.size := Nat.le_trans hT4.old.1 (Nat.le_of_lt ht4)
    have hwl : (ik (last + 1)).wf = true := wf64 (by omega) (by omega)
    have hput := H2.out.2.2.2.2.1
    have hnew := H2.out.2.2.2.2.2.1
    refine region_tail 8 (by kernel_rfl) (by kernel_rfl) ?_
    simp only [List.take_succ_cons, List.take_zero, List.drop_succ_cons, List.drop_zero]
    repeat still_step
    refine wpStill_nil ?_
    go_wp2_with (first
      | (go_at_call 73; go_must (refine (put_calls (w := w4.drew) hT4'.que hnew hwl hb4 hput).mono ?_; rintro e5 w5 ⟨rfl, v5, hq5, hk5, hv5⟩)))
    have hT5 := hT4'.newQue hq5 hk5
    have hS5 := hS4'.que hT4' hap4 hk5
    have hap5 : Apart (.slice A1 (ks.length + 1) c1) v5 := fun b hb hv => by
      rcases hv5 with e | ⟨b', e, hle⟩
      · exact hap4 b hb (e.symm.trans hv)
      · rw [e] at hv
        cases hv
        have := (hS4.own.lt hb).2
        have : w4.drew.heap.size = w4.heap.size := rfl
        omega
    clear t0 t1 t2 t3 t4 tz ht4
    obtain ⟨ht5, t0, t1, t2, t3, t4, tz⟩ := hT5.cells
    have tz3 := tz 3
    have hnm := hT5.ne
    have hka : Keeps None' w5 (w5.alloc (.cells #[.int .i64 here, .slice none 0 0, .slice none 0 0, .int .i64 (-1)] 159)).drew := (Keeps.alloc _ _ _).trans (Keeps.drew _ _)
    obtain ⟨w6, hrun, hm6, hk6⟩ := (hT5.all.keep hka (fun x => x)).store uMapAll (by unfold maxLen; omega) hwl (.pointer (some ⟨w5.heap.size, 0, none⟩))
    have hfn := H2.out.2.2.2.2.2.2.1
    rw [hfn] at hm6
    have hk56 : Keeps (Just m) w5 w6 := (hka.mono fun b _ x => x.elim).trans hk6
    have x0 := hk56.cell t0 (fun x => hnm.1 x)
    have x3 := hk56.cell t3 (fun x => hnm.1 x)
    have x4 := hk56.cell t4 (fun x => hnm.1 x)
    have xz3 : w6.frozen? ⟨t, 3, none⟩ = false := (hk56.frozen (p := ⟨t, 3, none⟩) ht5 (fun x => hnm.1 x)).trans (tz 3)
    have hs6 := hk6.obj (b := w5.heap.size) (show (w5.alloc (.cells #[.int .i64 here, .slice none 0 0, .slice none 0 0, .int .i64 (-1)] 159)).drew.heap[w5.heap.size]? = some (.cells #[.int .i64 here, .slice none 0 0, .slice none 0 0, .int .i64 (-1)] 159 (0, 0)) from block_new _ _) (fun x => by
      have := hT5.all.lt
      simp only [Just] at x
      omega)
    have H3 := Lib.hid (And.intro hT5 (And.intro hS5 (And.intro hap5 (And.intro hm6 (And.intro hk56 (And.intro hs6 (And.intro hk5 (And.intro hk4 (And.intro hv5 (And.intro hv4 hnm))))))))))
    clear hT5 hS5 hap5 hm6 hk56 hs6 hnm hka hk6 hfn hT3 hS3 hT3' hS3' hT4 hS4 hT4' hS4' hap2 hap4 hdrop hput hnew hk4 hk5 hq4 hq5 hv4 hv5
    have y0 := World.new_ne w5 _ t0
    have y3 := World.new_ne w5 _ t3
    have y4 := World.new_ne w5 _ t4
    go_region_held3 (fun w' => w'.cell? ⟨t, 0, none⟩ = some (.map (some m)) ∧ w'.cell? ⟨t, 3, none⟩ = some (.int .i64 here) ∧ w'.cell? ⟨t, 4, none⟩ = some (.int .i64 (last + 1))) (first | go_keep | exact ⟨x0, x3, x4⟩)
      ((go_at_call 74; refine (clone_nil _).mono ?_; rintro e1 w1' ⟨rfl, rfl⟩))
    have hT6 : TreeAt w6 base t m q wm v5 root here (last + 1) (fun n => if n = last + 1 then some (.pointer (some ⟨w5.heap.size, 0, none⟩)) else f n) (k + 1) (l1 ++ [last + 1]) := by
      obtain ⟨hT5, hS5, hap5, hm6, hk56, hs6, _, _, _, _, hnm⟩ := H3.out
      exact ⟨hk56.obj hT5.box (fun x => hnm.1 x), hm6, hT5.que.keep hk56 (fun b hb x => by
        simp only [Just] at hb
        subst hb
        rcases x with x | x | x
        · exact hnm.2.2.2.1 x
        · exact hnm.2.2.2.2.1 x
        · exact hnm.2.2.2.2.2.2 x), hT5.old⟩
    have hT7 := hT6.setHere (last + 1)
    have hlen := hT7.all.len uMapAll
    have H4 := Lib.hid hT7
    have H5 := Lib.hid hT6
    clear hT6 hT7 y0 y3 y4 hrun t0 t1 t2 t3 t4 tz tz3 hwl ht5
    have hk1 : ((k + 1 : Nat) : Int) ≤ 40 := by omega
    go_wp2
    refine wp_loop_rounds 1 ?_
    rw [rounds_succ]
    go_wp2
    go_ret
    obtain ⟨h, hs, hK1, hdrop, hput, hnew, hfn, hap, hK2, hap2, hT3, hS3, hK3⟩ := H2.out
    obtain ⟨hT5, hS5, hap5, hm6, hk56, hs6, hk5, hk4, hv5, hv4, hnm⟩ := H3.out
    have ha := apart_state hT5 hS5 hap5
    have kt : Keeps (Just t) w6 (w6.setCell ⟨t, 3, none⟩ (.int .i64 (last + 1))) := Keeps.setCell _ _ _ rfl
    have k5 : Keeps (AB t m q wm s v (.slice A ks.length c)) w w5 := by
      refine ((((((hK1.trans (Keeps.drew _ _)).trans (hK2.mono fun b _ x => ?_)).trans (hK3.mono fun b _ x => ?_)).trans (Keeps.drew _ _)).trans (hk4.mono fun b _ x => ?_)).trans (Keeps.drew _ _)).trans (hk5.mono fun b _ x => ?_)
      · exact x.elim (fun e => .inr (.inr (.inl e))) fun e => .inr (.inr (.inr (.inr e)))
      · exact .inr (.inr (.inl x))
      · exact .inr (.inr (.inr (.inl x)))
      · refine .inr (.inr (.inr (.inl ?_)))
        rcases x with x | x | x
        · exact .inl x
        · exact .inr (.inl x)
        · exact .inr (.inr (hv4.symm.trans x))
    have hz5 : base ≤ w5.heap.size := Nat.le_trans hT5.old.1 (Nat.le_of_lt (lt_of_block hT5.box))
    have hst6 : StateAt w6 base s parent (.slice A1 (ks.length + 1) c1) (ks ++ [last + 1]) (last + 1) := hS5.keep hk56 (ha s (.inl rfl)).2.1 fun b hb => (ha b (.inr hb)).2.1
    have hs7 : w5.heap.size ≠ t := fun e => by
      have := lt_of_block hT5.box
      omega
    refine ⟨rfl, v5, w5.heap.size, .slice A1 (ks.length + 1) c1, H4.out, hst6.keep kt ?_ (fun b hb => ?_), ⟨kt.obj hs6 hs7, Rp.Own.nil _ _ _ _ _, hz5⟩, k5.size, hap5, (k5.trans (hk56.mono fun b _ x => .inr (.inl x))).trans (Keeps.setCell _ _ _ (.inl rfl))⟩
    · exact (ha s (.inl rfl)).1
    · exact (ha b (.inr hb)).1
end Go.Proofs.Ythonibcfpojgpaa
