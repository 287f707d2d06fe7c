/-
  leaf.Queue: numbers in a heap, and where each one stands.
-/
import Derived.Test.YthonibcfpojgpaaMap
import Derived.Test.YthonibcfpojgpaaForth
namespace Go.Proofs.Ythonibcfpojgpaa
open Go Go.RowKit
set_option linter.unusedVariables false

theorem uMapAll : Try.prog.underlying 160 = some (.map 3 157) := by kernel_rfl
theorem uMapWhere : Try.prog.underlying 237 = some (.map 3 245) := by kernel_rfl
theorem zPlace (w : World) : (zeroValue 245).run Try.prog w = .ok (.agg #[.int .i64 0]) w := by kernel_rfl
theorem zState (w : World) : (zeroValue 157).run Try.prog w = .ok (.pointer none) w := by kernel_rfl

section
variable {P : Program} {ops : Array Oper} {rest : List Oper} {o : Oper} {a : Act} {Q : Exit → Act → World → Prop} {w : World}
theorem wpList_storeI (hg : o.guard = none) (m x v : Operand) (t e : TypeId) (hop : o.op = Op.mapUpdate t m x v) (ht : Try.prog.underlying t = some (.map 3 e)) (b k : Nat) (f : Int → Option Value)
    (hm : a.eval m = .map (some b)) (h : MapI w b f k) (hk : k < maxLen) (n : Int) (hn : (ik n).wf = true) (hf : f n = none) (val : Value) (hx : a.eval x = .int .i64 n) (hv : a.eval v = val)
    (hK : ∀ w', MapI w' b (fun m => if m = n then some val else f m) (k + 1) → Keeps (Just b) w w' → wpList Try.prog ops Q rest (a.put o.dst undef) w') :
    wpList Try.prog ops Q (o :: rest) a w := by
  refine wpList_plain hg fun K' hK' => ?_
  obtain ⟨w', hrun, r1, r2⟩ := h.store ht hk hn val
  rw [hf] at r1
  unfold Oper.wp
  simp [execOp, hop, hm, hx, hv, hrun, Result.andThen]
  exact hK' _ _ (hK w' r1 r2)
theorem wpList_dropI (hg : o.guard = none) (m x : Operand) (t e : TypeId) (hop : o.op = Op.call { callee := Callee.builtin Builtin.delete, args := #[m, x], argTypes := #[t, 3] }) (ht : Try.prog.underlying t = some (.map 3 e)) (b k : Nat) (f : Int → Option Value)
    (hm : a.eval m = .map (some b)) (h : MapI w b f k) (n : Int) (hn : (ik n).wf = true) (hf : (f n).isSome = true) (hx : a.eval x = .int .i64 n)
    (hK : ∀ w', MapI w' b (fun m => if m = n then none else f m) (k - 1) → Keeps (Just b) w w' → wpList Try.prog ops Q rest (a.put o.dst (.tuple #[])) w') :
    wpList Try.prog ops Q (o :: rest) a w := by
  refine wpList_plain hg fun K' hK' => ?_
  obtain ⟨w', hrun, r1, r2⟩ := h.drop ht hn o.type
  rw [hf] at r1
  unfold Oper.wp
  simp [execOp, hop, resolve, invoke, builtin, hm, hx, hrun, Result.andThen]
  exact hK' _ _ (hK w' r1 r2)
end

@[go_sem] theorem asInt (v : Value) (w : World) : (Instr.typeAssert (.iface 3 v) 20 3 false).run Try.prog w = .ok v w := by kernel_rfl

/-- Where each number of l stands. -/
def place (l : List Int) (n : Int) : Option Value := if n ∈ l then some (.agg #[.int .i64 (l.idxOf n)]) else none
theorem place_push {l : List Int} {n : Int} (hn : n ∉ l) (m : Int) : place (l ++ [n]) m = if m = n then some (.agg #[.int .i64 l.length]) else place l m := by
  unfold place
  by_cases h : m = n
  · subst h
    simp [List.idxOf_append, hn]
  · by_cases hm : m ∈ l
    · simp [h, hm, List.idxOf_append]
    · simp [h, hm]
theorem place_pop {l : List Int} {n : Int} (hn : n ∉ l) (m : Int) : place l m = if m = n then none else place (l ++ [n]) m := by
  rw [place_push hn]
  by_cases h : m = n
  · subst h; simp [place, hn]
  · simp [h]

/-- Block q is a queue (block wm: where each number stands; v: the numbers' slice). -/
structure QueAt (w : World) (base q wm : Nat) (v : Value) (l : List Int) : Prop where
  box : w.heap[q]? = some (.cells #[v, .map (some wm)] 241 (0, 0))
  own : (rInt .i64).Own 3 w base (Just q) v l
  map : MapI w wm (place l) l.length
  old : base ≤ q ∧ base ≤ wm
/-- The blocks of a queue. -/
def QB (q wm : Nat) (v : Value) : Nat → Prop := fun b => b = q ∨ b = wm ∨ Of v b
/-- What a slice has become: it stands where it stood, or in a new block. -/
def Moved (w : World) (v v' : Value) : Prop := v'.ownBlock = v.ownBlock ∨ ∃ b, v'.ownBlock = some b ∧ w.heap.size ≤ b

section
variable {w w' : World} {base q wm : Nat} {v : Value} {l : List Int}
theorem QueAt.ne (h : QueAt w base q wm v l) : wm ≠ q ∧ v.ownBlock ≠ some wm ∧ v.ownBlock ≠ some q := by
  obtain ⟨es, clock, hm⟩ := h.map.obj
  refine ⟨fun e => ?_, fun e => ?_, fun e => h.own.1 q e rfl⟩
  · rw [e, h.box] at hm; cases hm
  · obtain ⟨_, cs, h1, _⟩ := h.own
    rcases h1.2 with ⟨rfl, _⟩ | ⟨g, cap, cur, rfl, _, hh, _⟩
    · cases e
    · cases e
      rw [hh] at hm; cases hm
theorem QueAt.keep {nb : Nat → Prop} (h : QueAt w base q wm v l) (hk : Keeps nb w w') (hn : ∀ b, nb b → ¬ QB q wm v b) : QueAt w' base q wm v l := by
  refine ⟨hk.obj h.box fun x => hn _ x (.inl rfl), ?_, h.map.keep hk fun x => hn _ x (.inr (.inl rfl)), h.old⟩
  refine Rp.Own.weak (nb := fun b => b = q ∨ nb b) (Rp.Own.keep ⟨fun b hb x => ?_, ?_⟩ (hk.mono fun b _ => .inr)) fun b _ => .inl
  · rcases x with x | x
    · exact h.own.1 b hb x
    · exact hn b x (.inr (.inr hb))
  · obtain ⟨_, cs, h1, h2⟩ := h.own
    exact ⟨cs, h1, h2.imp fun _ _ hx => hx⟩
theorem QueAt.heap (h : QueAt w base q wm v l) (e : w'.heap = w.heap) : QueAt w' base q wm v l := by
  obtain ⟨h0, cs, h1, h2⟩ := h.own
  exact ⟨by rw [e]; exact h.box, ⟨h0, cs, ownsRow_heap h1 e, h2⟩, h.map.heap e, h.old⟩
theorem QueAt.cells (h : QueAt w base q wm v l) : q < w.heap.size ∧ w.cell? ⟨q, 0, none⟩ = some v ∧ w.cell? ⟨q, 1, none⟩ = some (.map (some wm)) ∧ w.frozen? ⟨q, 0, none⟩ = false ∧ w.frozen? ⟨q, 1, none⟩ = false :=
  ⟨lt_of_block h.box, by rw [cell_of_block h.box]; rfl, by rw [cell_of_block h.box]; rfl, frozen_of_row w q 0 _ _ h.box, frozen_of_row w q 1 _ _ h.box⟩
theorem QueAt.blocks (h : QueAt w base q wm v l) {b : Nat} (hb : QB q wm v b) : base ≤ b ∧ b < w.heap.size := by
  rcases hb with rfl | rfl | hb
  · exact ⟨h.old.1, lt_of_block h.box⟩
  · exact ⟨h.old.2, h.map.lt⟩
  · exact h.own.lt hb
/-- A number more has come to the slice, and to the map. -/
theorem QueAt.pushed {w1 w2 : World} {n : Int} {v1 : Value} (h : QueAt w base q wm v l) (hn : n ∉ l) (hm : MapI w1 wm (fun m => if m = n then some (.agg #[.int .i64 l.length]) else place l m) (l.length + 1)) (hk : Keeps (Just wm) w w1)
    (ho : (rInt .i64).Own 3 w2 base (Just q) v1 (l ++ [n])) (hg : w1.grownBy w2 v.ownBlock) (hat : Moved w1 v v1) :
    QueAt (w2.setCell ⟨q, 0, none⟩ v1) base q wm v1 (l ++ [n]) ∧ Keeps (QB q wm v) w (w2.setCell ⟨q, 0, none⟩ v1) ∧ Moved w v v1 := by
  obtain ⟨e1, e2, e3⟩ := h.ne
  have hb2 : w2.heap[q]? = some (.cells #[v, .map (some wm)] 241 (0, 0)) := by
    rw [hg.block q (Nat.lt_of_lt_of_le (lt_of_block h.box) hk.size) (fun e => e3 e.symm)]
    exact hk.obj h.box fun x => e1 x.symm
  have k2 : Keeps (QB q wm v) w1 w2 := Keeps.grown hg fun b e => .inr (.inr e)
  have k3 : Keeps (QB q wm v) w2 (w2.setCell ⟨q, 0, none⟩ v1) := Keeps.setCell _ _ _ (.inl rfl)
  refine ⟨⟨heap_setCell_same w2 q 0 _ _ _ hb2, ho.keep (Keeps.setCell _ _ _ rfl), ?_, h.old⟩, ((hk.mono fun b _ x => .inr (.inl x)).trans k2).trans k3, hat.imp id fun ⟨b, e, hle⟩ => ⟨b, e, Nat.le_trans hk.size hle⟩⟩
  refine ((hm.keep (Keeps.grown hg (nb := fun b => v.ownBlock = some b) fun b e => e) e2).keep (Keeps.setCell (nb := Just q) _ ⟨q, 0, none⟩ v1 rfl) e1).to (place_push hn) (by simp)
end

set_option maxRecDepth 100000 in
set_option maxHeartbeats 400000 in
theorem push_calls {w : World} {base q wm : Nat} {v : Value} {l : List Int} {n : Int} (h : QueAt w base q wm v l) (hn : n ∉ l) (hw : (ik n).wf = true) (hl : l.length ≤ 1000000) (hb : base ≤ w.heap.size) :
    Calls Try.prog 258 #[.pointer (some ⟨q, 0, none⟩), .iface 3 (.int .i64 n)] w fun e w' => e = .returned (.tuple #[]) ∧ ∃ v', QueAt w' base q wm v' (l ++ [n]) ∧ Keeps (QB q wm v) w w' ∧ Moved w v v' := by
  obtain ⟨hq, c0, c1, z0, z1⟩ := h.cells
  obtain ⟨A, c, rfl, hlc, hcm⟩ := h.own.shape
  obtain ⟨e1, e2, e3⟩ := h.ne
  have hpl : place l n = none := by simp [place, hn]
  go_enter Try.func258, Try.ntmps258
  go_wp2
  refine region_tail 11 (by kernel_rfl) (by kernel_rfl) ?_
  simp only [List.take_succ_cons, List.take_zero, List.drop_succ_cons, List.drop_zero]
  repeat still_step
  refine wpStill_nil ?_
  refine wpList_storeI rfl _ _ _ _ _ rfl uMapWhere wm l.length (place l) rfl (h.map.heap rfl) (by unfold maxLen; omega) n hw hpl (.agg #[.int .i64 l.length]) rfl rfl ?_
  intro w1 hm1 hk1
  have hk1' : Keeps (Just wm) w w1 := (Keeps.drew _ w).trans hk1
  have c0' := hk1'.cell c0 (fun x => e1 x.symm)
  have z0' : w1.frozen? ⟨q, 0, none⟩ = false := (hk1'.frozen (p := ⟨q, 0, none⟩) hq (fun x => e1 x.symm)).trans z0
  have hsz := hk1'.size
  have hown1 : (rInt .i64).Own 3 w1 base (Just q) (.slice A l.length c) l := by
    refine (Rp.Own.weak (nb := Or' (Just q) (Just wm)) (Rp.Own.keep ⟨fun b hb x => ?_, ?_⟩ (hk1'.mono fun _ _ => .inr)) fun _ _ => .inl)
    · rcases x with rfl | rfl
      · exact e3 hb
      · exact e2 hb
    · obtain ⟨_, cs, h1, h2⟩ := h.own
      exact ⟨cs, h1, h2.imp fun _ _ hx => hx⟩
  have hp : (rInt .i64).r w1 (Or' (Just q) (Of (.slice A l.length c))) n [.int .i64 n] := rfl
  have HP := Lib.hid (And.intro hpl (And.intro hm1 (And.intro hk1' (And.intro e1 (And.intro e2 e3)))))
  unfold maxLen at hcm
  have hq1 : q < w1.heap.size := by omega
  have hb1 : base ≤ w1.heap.size := by omega
  clear hpl hm1 hk1 hk1' e1 e2 e3 c0 c1 z0 z1
  generalize hL : l.length = L at *
  have HL := Lib.hid hL
  have hlL : (l.length + 1) * 8 ≤ 140737488355328 := by omega
  have hlL2 : l.length + 1 ≤ 140737488355328 := by omega
  clear hL
  go_wp2_with (first
    | (at_builtin; go_must (refine wpList_append1 (rInt .i64) rfl (.tmp 22) (.tmp 24) 67 3 _ 8 rfl uSlInt iInt rfl (by decide) base (Just q) (.slice A L c) l n [.int .i64 n] (by rfl) (by rfl) hown1 hp hb1 (fun b hb => hb ▸ hq1) hlL hlL2 ?_)))
  intro v1 w2 hown2 hg2 hat2
  have hq2 : (Value.slice A L c).ownBlock ≠ some q := HP.out.2.2.2.2.2
  have c2 := hg2.cell c0' (fun e => hq2 e.symm)
  have z2 : w2.frozen? ⟨q, 0, none⟩ = false := (World.frozen?_of_block (w := w1) (hg2.block q hq1 (fun e => hq2 e.symm))).trans z0'
  obtain ⟨A1, c1', rfl, hcv1, hmv1⟩ := hown2.shape
  have HQ := Lib.hid (And.intro hown2 (And.intro hg2 hat2))
  clear hown2 hg2 hat2 hown1 hp c0' z0' hq2
  go_wp2
  go_end0
  obtain ⟨hown2, hg2, hat2⟩ := HQ.out
  obtain ⟨hpl, hm1, hk1, _⟩ := HP.out
  obtain rfl := HL.out
  rw [show (l ++ [n]).length = l.length + 1 by simp] at hown2 hat2
  exact ⟨rfl, _, h.pushed hn hm1 hk1 hown2 hg2 hat2⟩

theorem own_cell {w : World} {base : Nat} {nb : Nat → Prop} {v : Value} {l : List Int} (h : (rInt .i64).Own 3 w base nb v l) (hne : l ≠ []) : ∃ g c, v = .slice (some ⟨g, 0, none⟩) l.length c ∧ base ≤ g ∧ g < w.heap.size ∧ l.length ≤ c ∧ c ≤ maxLen ∧
    (∀ i (hi : i < l.length), w.cell? ⟨g, i, none⟩ = some (.int .i64 l[i])) ∧ ∀ i, w.frozen? ⟨g, i, none⟩ = false := by
  obtain ⟨_, cs, h1, h2⟩ := h
  rcases h1.2 with ⟨rfl, hn⟩ | ⟨g, cap, cur, rfl, hb, hh, h3, h4, h5, h6⟩
  · exact absurd (List.eq_nil_of_length_eq_zero hn) hne
  · refine ⟨g, cap, rfl, hb, lt_of_block hh, h3, h4, fun i hi => ?_, fun i => frozen_of_row w g i cur _ hh⟩
    obtain ⟨c, hcl, hr, hc⟩ := h2.chunk hi
    simp only [rInt, Rp.flat] at hr hc
    subst hr
    have h7 := hc 0 _ rfl
    rw [← h6, List.getElem?_take] at h7
    split at h7
    · rw [cell_of_block hh]
      simpa using h7
    · cases h7

/-- The last number goes. -/
theorem QueAt.popped {w w1 : World} {base q wm g c : Nat} {l : List Int} {n : Int} (h : QueAt w base q wm (.slice (some ⟨g, 0, none⟩) (l.length + 1) c) (l ++ [n])) (hn : n ∉ l)
    (hm : MapI w1 wm (fun m => if m = n then none else place (l ++ [n]) m) l.length) (hk : Keeps (Just wm) (w.setCell ⟨q, 0, none⟩ (.slice (some ⟨g, 0, none⟩) l.length c)) w1) :
    QueAt w1 base q wm (.slice (some ⟨g, 0, none⟩) l.length c) l ∧ Keeps (QB q wm (.slice (some ⟨g, 0, none⟩) (l.length + 1) c)) w w1 := by
  obtain ⟨e1, e2, e3⟩ := h.ne
  have k1 : Keeps (Just q) w (w.setCell ⟨q, 0, none⟩ (.slice (some ⟨g, 0, none⟩) l.length c)) := Keeps.setCell _ _ _ rfl
  have hb1 : (w.setCell ⟨q, 0, none⟩ (.slice (some ⟨g, 0, none⟩) l.length c)).heap[q]? = some (.cells #[.slice (some ⟨g, 0, none⟩) l.length c, .map (some wm)] 241 (0, 0)) := heap_setCell_same w q 0 _ _ _ h.box
  refine ⟨⟨hk.obj hb1 fun x => e1 x.symm, ?_, hm.to (place_pop hn) rfl, h.old⟩, (k1.mono fun b _ x => .inl x).trans (hk.mono fun b _ x => .inr (.inl x))⟩
  obtain ⟨h0, cs, h1, h2⟩ := h.own
  have hlen : (l ++ [n]).length = l.length + 1 := by simp
  rw [hlen] at h1
  have h2t := h2.take l.length (by simp)
  rw [List.take_left' rfl] at h2t
  have hcl : cs.length = l.length + 1 := by have := h2.1; simpa [rInt, Rp.flat] using this
  have h3 : w.ownsRow base 3 1 (.slice (some ⟨g, 0, none⟩) l.length c) l.length (cs.take l.length) := by
    refine ownsRow_pop (n := l.length) (size := 1) (last := cs.drop l.length) (by rw [List.length_take]; omega) ?_
    rw [List.take_append_drop]
    exact h1
  have h2t' : Reps ((rInt .i64).r w (Or' (Just q) (Of (.slice (some ⟨g, 0, none⟩) l.length c)))) (rInt .i64).sz l (cs.take l.length) := by
    have e : l.length * (rInt .i64).sz = l.length := Nat.mul_one _
    rw [e] at h2t
    exact h2t.imp fun _ _ hx => hx
  have ho : (rInt .i64).Own 3 w base (Or' (Just q) (Just wm)) (.slice (some ⟨g, 0, none⟩) l.length c) l :=
    ⟨fun b hb x => x.elim (fun e => e3 (hb.trans (by rw [e]))) (fun e => e2 (hb.trans (by rw [e]))), _, h3, h2t'.imp fun _ _ hx => hx⟩
  exact ((ho.keep (k1.mono fun _ _ => .inl)).keep (hk.mono fun _ _ => .inr)).weak fun _ _ => .inl

set_option maxRecDepth 100000 in
set_option maxHeartbeats 400000 in
theorem pop_calls {w : World} {base q wm : Nat} {v : Value} {l : List Int} {n : Int} (h : QueAt w base q wm v (l ++ [n])) (hn : n ∉ l) (hw : (ik n).wf = true) (hl : l.length ≤ 1000000) :
    Calls Try.prog 257 #[.pointer (some ⟨q, 0, none⟩)] w fun e w' => e = .returned (.iface 3 (.int .i64 n)) ∧ ∃ v', QueAt w' base q wm v' l ∧ Keeps (QB q wm v) w w' ∧ v'.ownBlock = v.ownBlock := by
  obtain ⟨hq, c0, c1, z0, z1⟩ := h.cells
  obtain ⟨e1, e2, e3⟩ := h.ne
  obtain ⟨g, c, hv, hgb, hgs, hlc, hcm, hcell, hz⟩ := own_cell h.own (by simp)
  have hlen : (l ++ [n]).length = l.length + 1 := by simp
  rw [hlen] at hv hlc
  subst hv
  have hcn := hcell l.length (by simp)
  rw [List.getElem_append_right (Nat.le_refl _)] at hcn
  simp only [Nat.sub_self, List.getElem_cons_zero] at hcn
  have hpl : (place (l ++ [n]) n).isSome = true := by simp [place]
  have HQ := Lib.hid h
  have hwr : IntKind.i64.wrap ((l.length : Int) + 1 - 1) = l.length := by rw [IntWalk.i64_in _ (by omega)]; omega
  have hH := Lib.hid (And.intro hlen hpl)
  unfold maxLen at hcm
  clear hcell hlen hpl h
  generalize hL : l.length = L at *
  have HL := Lib.hid hL
  clear hL
  have hnn : 0 ≤ (L : Int) := by omega
  have hnt : ((L : Int)).toNat = L := by omega
  go_enter Try.func257, Try.ntmps257
  have hmp : MapI (w.setCell ⟨q, 0, none⟩ (.slice (some ⟨g, 0, none⟩) L c)) wm (place (l ++ [n])) (L + 1) := by
    have := HQ.out.map.keep (Keeps.setCell (nb := Just q) w ⟨q, 0, none⟩ (.slice (some ⟨g, 0, none⟩) L c) rfl) e1
    rw [hH.out.1] at this
    exact this
  go_wp2_with (first
    | (at_delete; go_must (refine wpList_dropI rfl _ _ 237 245 rfl uMapWhere wm (L + 1) (place (l ++ [n])) (by rfl) hmp n hw hH.out.2 (by rfl) ?_)))
  intro w1 hm1 hk1
  have HR := Lib.hid (And.intro hm1 hk1)
  clear hm1 hk1 c0 c1 z0 z1 hcn hz hmp
  go_wp2
  go_ret
  obtain ⟨hm1, hk1⟩ := HR.out
  obtain rfl := HL.out
  obtain ⟨h1, h2⟩ := HQ.out.popped hn hm1 hk1
  exact ⟨rfl, _, h1, h2, rfl⟩
end Go.Proofs.Ythonibcfpojgpaa
