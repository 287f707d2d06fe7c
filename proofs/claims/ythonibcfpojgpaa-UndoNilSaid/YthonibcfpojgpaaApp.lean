/-
  Laws on append to a slice of the call's own, in the words of the base.
-/
import Derived.Test.YthonibcfpojgpaaBase
namespace Go.Proofs.Ythonibcfpojgpaa
open Go Go.RowKit

section
variable {α : Type} {P : Program} {W : World}
theorem run_append_Own (d : Rp α) (t ty E : TypeId) (z : Value) (bytes : Nat) (ht : P.underlying t = some (.slice E)) (hinfo : (P.info? E).map (fun i => (i.zero, i.size, i.bytes)) = some (some z, d.sz, bytes))
    (hz : z.cells.size = d.sz) (hs0 : 0 < d.sz) (base : Nat) (nb : Nat → Prop) (v : Value) (xs ys : List α) (news : List Value) (ad : Addr) (m c : Nat) (HO : d.Own E W base nb v xs)
    (hm : m = ys.length) (hys : Reps (d.r W (Or' nb (Of v))) d.sz ys news) (hnews : ∀ j u, news[j]? = some u → W.cell? (ad.add j) = some u) (h1 : ∀ u ∈ news, u.oneCell' = true)
    (hbase : base ≤ W.heap.size) (hnb : ∀ b, nb b → b < W.heap.size) (hl : (xs.length + ys.length) * bytes ≤ 140737488355328) (hl2 : xs.length + ys.length ≤ 140737488355328) :
    ∃ v' w', (Builtin.append_ #[t, t] ty #[v, .slice (some ad) m c]).run P W = .ok v' w' ∧ d.Own E w' base nb v' (xs ++ ys) ∧ W.grownBy w' v.ownBlock ∧
      (v'.ownBlock = v.ownBlock ∨ v'.ownBlock = some W.heap.size) := by
  obtain ⟨i0, hi, hzz⟩ := Option.map_eq_some_iff.1 hinfo
  simp only [Prod.mk.injEq] at hzz
  obtain ⟨hz0, hz1, hz2⟩ := hzz
  subst hm
  have HO0 := HO
  obtain ⟨h0, cs, hown, hr⟩ := HO
  obtain ⟨v', w', hrun, ho', hg, _, hat⟩ := run_append_own_at (P := P) (w := W) base t ty E i0 z d.sz bytes ht hi hz0 hz1 hz2 hz hs0 v xs.length cs hown ad ys.length c news
    hys.1 hnews h1 (by simp only [maxLen]; omega) hl hbase
  refine ⟨v', w', hrun, ?_, hg, hat⟩
  have hat' : v'.ownBlock = v.ownBlock ∨ ∃ b, v'.ownBlock = some b ∧ W.heap.size ≤ b := hat.imp id fun h => ⟨_, h, Nat.le_refl _⟩
  have hk : Keeps (fun b => nb b ∨ Of v b ∨ Of v' b) W w' := Keeps.grown hg fun b hb => .inr (.inl hb)
  have hmove : ∀ x c, d.r W (Or' nb (Of v)) x c → d.r w' (Or' nb (Of v')) x c := fun x c hx => by
    refine d.weak (d.keep (d.weak hx (nb' := fun b => nb b ∨ Of v b ∨ Of v' b) fun b hb y => ?_) hk) fun b _ y => ?_
    · rcases y with y | y | y
      · exact .inl y
      · exact .inr y
      · rcases hat' with hv | ⟨b', hv, hle⟩
        · exact .inr (by unfold Of at *; rw [← hv]; exact y)
        · unfold Of at y
          rw [hv] at y
          cases y
          omega
    · rcases y with y | y
      · exact .inl y
      · exact .inr (.inr y)
  refine ⟨fun b hb => ?_, cs ++ news, by rw [List.length_append]; exact ho', (hr.imp hmove).append (hys.imp hmove)⟩
  rcases hat' with hv | ⟨b', hv, hle⟩
  · rw [hv] at hb
    exact h0 b hb
  · rw [hv] at hb
    cases hb
    intro x
    have := hnb _ x
    omega
theorem Addr.add_at (g off j : Nat) : (⟨g, off, none⟩ : Addr).add j = ⟨g, off + j, none⟩ := by unfold Addr.add; split <;> simp_all
/-- append(v, u...), u any slice that is read. -/
theorem run_append_OwnN (d : Rp α) (t ty E : TypeId) (z : Value) (bytes : Nat) (ht : P.underlying t = some (.slice E)) (hinfo : (P.info? E).map (fun i => (i.zero, i.size, i.bytes)) = some (some z, d.sz, bytes))
    (hz : z.cells.size = d.sz) (hs0 : 0 < d.sz) (base : Nat) (nb : Nat → Prop) (v u : Value) (xs ys : List α) (HO : d.Own E W base nb v xs) (hp : d.Sl E W (Or' nb (Of v)) u ys)
    (hbase : base ≤ W.heap.size) (hnb : ∀ b, nb b → b < W.heap.size) (hl : (xs.length + ys.length) * bytes ≤ 140737488355328) (hl2 : xs.length + ys.length ≤ 140737488355328) :
    ∃ v' w', (Builtin.append_ #[t, t] ty #[v, u]).run P W = .ok v' w' ∧ d.Own E w' base nb v' (xs ++ ys) ∧ W.grownBy w' v.ownBlock ∧ (v'.ownBlock = v.ownBlock ∨ ∃ b, v'.ownBlock = some b ∧ W.heap.size ≤ b) := by
  obtain ⟨cs, hc, hr⟩ := hp
  rcases hc.lies with ⟨rfl, h0⟩ | ⟨g, off, cap, cur, rfl, hg, hh, h1, h2, h3, h4⟩
  · obtain ⟨i0, hi, hzz⟩ := Option.map_eq_some_iff.1 hinfo
    obtain ⟨_, cs', hown, _⟩ := id HO
    have hy : ys = [] := List.eq_nil_of_length_eq_zero h0
    subst hy
    exact ⟨v, W, run_append_owned_none W base t ty E i0 d.sz ht hi v xs.length cs' hown, by simpa using HO, ⟨rfl, rfl, rfl, Nat.le_refl _, fun _ _ _ => rfl⟩, .inl rfl⟩
  · obtain ⟨v', w', h5, h6, h7, h8⟩ := run_append_Own (P := P) (W := W) d t ty E z bytes ht hinfo hz hs0 base nb v xs ys cs ⟨g, off, none⟩ ys.length cap HO rfl hr
      (fun j u hu => by rw [Addr.add_at, cell_of_row W g (off + j) cur E (0, 0) hh]; exact h4 j u hu)
      (fun u hu => by
        obtain ⟨j, hj⟩ := List.getElem?_of_mem hu
        have hlt := (List.getElem?_eq_some_iff.1 hj).1
        rw [hr.1] at hlt
        obtain ⟨c, hcl, hrr, hcc⟩ := hr.chunk (i := j / d.sz) (Nat.div_lt_of_lt_mul (by rw [Nat.mul_comm]; exact hlt))
        have hm : j % d.sz < c.length := by rw [hcl]; exact Nat.mod_lt _ hs0
        have := hcc (j % d.sz) _ (List.getElem?_eq_getElem hm)
        rw [Nat.div_add_mod' j d.sz, hj] at this
        cases this
        exact d.one hrr _ (List.getElem_mem hm)) hbase hnb hl hl2
    exact ⟨v', w', h5, h6, h7, h8.imp id fun e => ⟨_, e, Nat.le_refl _⟩⟩
end

section
variable {α : Type} {P : Program} {ops : Array Oper} {rest : List Oper} {o : Oper} {a : Act} {Q : Exit → Act → World → Prop} {W : World}
/-- append(v, x): the element's cells lie in the block that was laid last. -/
theorem wpList_append1 (d : Rp α) (hgd : o.guard = none) (s x : Operand) (t E : TypeId) (z : Value) (bytes : Nat)
    (ho : o.op = .call { callee := .builtin .append, args := #[s, x], argTypes := #[t, t] })
    (ht : P.underlying t = some (.slice E)) (hinfo : (P.info? E).map (fun i => (i.zero, i.size, i.bytes)) = some (some z, d.sz, bytes)) (hz : z.cells.size = d.sz) (hs0 : 0 < d.sz)
    (base : Nat) (nb : Nat → Prop) (v : Value) (xs : List α) (x0 : α) (cs : List Value) (hs : a.eval s = v) (hx : a.eval x = .slice (some ⟨W.heap.size, 0, none⟩) 1 1)
    (HO : d.Own E W base nb v xs) (hp : d.r W (Or' nb (Of v)) x0 cs) (hbase : base ≤ W.heap.size) (hnb : ∀ b, nb b → b < W.heap.size)
    (hl : (xs.length + 1) * bytes ≤ 140737488355328) (hl2 : xs.length + 1 ≤ 140737488355328)
    (h : ∀ v1 w1, d.Own E w1 base nb v1 (xs ++ [x0]) → W.grownBy w1 v.ownBlock → (v1.ownBlock = v.ownBlock ∨ ∃ b, v1.ownBlock = some b ∧ W.heap.size ≤ b) → wpList P ops Q rest (a.put o.dst v1) w1) :
    wpList P ops Q (o :: rest) a (W.alloc (.cells cs.toArray E)) := by
  have hk : ∀ nb, Keeps nb W (W.alloc (.cells cs.toArray E)) := fun nb => Keeps.alloc nb W _
  obtain ⟨v1, w1, hrun, hown, hg, hat⟩ := run_append_Own (P := P) (W := W.alloc (.cells cs.toArray E)) d t o.type E z bytes ht hinfo hz hs0 base nb v xs [x0] cs ⟨W.heap.size, 0, none⟩ 1 1
    (HO.keep (hk _)) rfl (.one (d.keep hp (hk _)) (d.len hp)) (fun j u hu => by
      have : (⟨W.heap.size, 0, none⟩ : Addr).add j = ⟨W.heap.size, j, none⟩ := by unfold Addr.add; split <;> simp_all
      rw [this, World.cell?_alloc_new]
      simpa using hu) (d.one hp) (by simp; omega) (fun b hb => by have := hnb b hb; simp; omega) (by simpa using hl) (by simpa using hl2)
  refine wpList_plain hgd fun K hK => ?_
  unfold Oper.wp execOp
  simp only [ho, resolve, invoke, builtin, Sem.run_bind, Sem.run_pure, Result.andThen_ok, List.map_toArray, List.map_cons, List.map_nil, hs, hx, hrun]
  refine hK _ _ (h v1 w1 hown ((World.grownBy_alloc W _ _).trans hg) ?_)
  exact hat.imp id fun e => ⟨_, e, by simp⟩
/-- append(v, ys...), ys read out of memory. -/
theorem wpList_appendN (d : Rp α) (hgd : o.guard = none) (s x : Operand) (t E : TypeId) (z : Value) (bytes : Nat)
    (ho : o.op = .call { callee := .builtin .append, args := #[s, x], argTypes := #[t, t] })
    (ht : P.underlying t = some (.slice E)) (hinfo : (P.info? E).map (fun i => (i.zero, i.size, i.bytes)) = some (some z, d.sz, bytes)) (hz : z.cells.size = d.sz) (hs0 : 0 < d.sz)
    (base : Nat) (nb : Nat → Prop) (v u : Value) (xs ys : List α) (hs : a.eval s = v) (hx : a.eval x = u)
    (HO : d.Own E W base nb v xs) (hp : d.Sl E W (Or' nb (Of v)) u ys) (hbase : base ≤ W.heap.size) (hnb : ∀ b, nb b → b < W.heap.size)
    (hl : (xs.length + ys.length) * bytes ≤ 140737488355328) (hl2 : xs.length + ys.length ≤ 140737488355328)
    (h : ∀ v1 w1, d.Own E w1 base nb v1 (xs ++ ys) → W.grownBy w1 v.ownBlock → (v1.ownBlock = v.ownBlock ∨ ∃ b, v1.ownBlock = some b ∧ W.heap.size ≤ b) → wpList P ops Q rest (a.put o.dst v1) w1) :
    wpList P ops Q (o :: rest) a W := by
  obtain ⟨v1, w1, hrun, hown, hg, hat⟩ := run_append_OwnN (P := P) (W := W) d t o.type E z bytes ht hinfo hz hs0 base nb v u xs ys HO hp hbase hnb hl hl2
  refine wpList_plain hgd fun K hK => ?_
  unfold Oper.wp execOp
  simp only [ho, resolve, invoke, builtin, Sem.run_bind, Sem.run_pure, Result.andThen_ok, List.map_toArray, List.map_cons, List.map_nil, hs, hx, hrun]
  exact hK _ _ (h v1 w1 hown hg hat)
end
end Go.Proofs.Ythonibcfpojgpaa
