/-
  Ranges over functions: what an iterator owes (Iter), what a loop over it comes to (range_law). The iterator may keep state in cells of its own (nb: its blocks).
-/
import Derived.Test.YthonibcfpojgpaaBase
import Derived.RangeFuncNested
import Derived.RangeFuncBound
import Derived.RangeFuncCalls
import Derived.RangeFuncLeaves
namespace Go.Proofs.Ythonibcfpojgpaa
open Go Go.RowKit
set_option linter.unusedVariables false

/-- What a round may write: none of the iterator's blocks nb; of what lay below n0 nothing but M. -/
def May (nb M : Nat → Prop) (n0 : Nat) : Nat → Prop := fun b => ¬ nb b ∧ (b < n0 → M b)
/-- J abides steps that write the blocks nb alone. -/
def Stab (base : Nat) (J : (Nat → Prop) → Nat → World → Prop) : Prop :=
  ∀ nb nb' k W W', J nb k W → Keeps nb W W' → (∀ b, nb b → base ≤ b) → (∀ b, nb' b → base ≤ b) → (∀ b, b < W.heap.size → nb' b → nb b) → J nb' k W'
def Stab0 (J : (Nat → Prop) → Nat → World → Prop) : Prop := ∀ nb nb' k W W', J nb k W → Keeps nb W W' → (∀ b, b < W.heap.size → nb' b → nb b) → J nb' k W'

def Iter {α : Type} (P : Program) (gf : Nat) (lb : Array Value) (E : α → Array Value → Prop) (xs : List α) (M : Nat → Prop) (w0 : World) : Prop :=
  ∀ (n l : Nat) (J Jx : (Nat → Prop) → Nat → World → Prop) (W : World), Keeps M w0 W → Stab W.heap.size J → Stab W.heap.size Jx →
    (∀ nb k (hk : k < xs.length) W1 args, E xs[k] args → (∀ b, nb b → W.heap.size ≤ b ∧ b < W1.heap.size) → Keeps M w0 W1 → J nb k W1 →
      YieldAt Fence.wide n P l args W1 fun e W2 =>
        (e = .returned (.bool true) ∧ J nb (k + 1) W2 ∧ Keeps (May nb M w0.heap.size) W1 W2) ∨ (e = .returned (.bool false) ∧ Jx nb (k + 1) W2 ∧ Keeps (May nb M w0.heap.size) W1 W2)) →
    J None' 0 W →
    CallsIn Fence.wide (n + 1) P gf (#[.func (.yield l) #[] #[]] ++ lb) W fun e W' => (∃ v, e = .returned v) ∧
      ((∃ nb, (∀ b, nb b → W.heap.size ≤ b) ∧ Keeps M w0 W' ∧ J nb xs.length W') ∨ (∃ nb k, (∀ b, nb b → W.heap.size ≤ b) ∧ k < xs.length ∧ Keeps M w0 W' ∧ Jx nb (k + 1) W'))

/-- How a round may be left. -/
def BodyPost (M : Nat → Prop) (n0 : Nat) (I : (Nat → Prop) → Nat → World → Prop) (Ix : Code → (Nat → Prop) → Nat → World → Prop) (nb : Nat → Prop) (k : Nat) (W : World) : Exit → Act → World → Prop
  | .normal, _, W' => Keeps (May nb M n0) W W' ∧ I nb (k + 1) W'
  | .ret, _, W' => Keeps (May nb M n0) W W' ∧ Ix .ret nb (k + 1) W'
  | .exit id, _, W' => Keeps (May nb M n0) W W' ∧ Ix (.exit id) nb (k + 1) W'
  | .goto t, _, W' => Keeps (May nb M n0) W W' ∧ Ix (.goto t) nb (k + 1) W'
  | .panic _, _, _ => False
  | .outgrown, _, _ => False

theorem Keeps.putObj {nb : Nat → Prop} (W : World) (l : Nat) (o : Obj) (h : nb l) : Keeps nb W (W.putObj l o) :=
  Keeps.grown (grownBy_putObj' W l o) (fun b e => by cases e; exact h)
theorem keeps_size_putObj (W : World) (l : Nat) (o : Obj) : (W.putObj l o).heap.size = W.heap.size := by simp
theorem Keeps.may {nb M : Nat → Prop} {w0 W W' : World} (h : Keeps M w0 W) (k : Keeps (May nb M w0.heap.size) W W') : Keeps M w0 W' :=
  h.over k fun i hi hm => hm.2 hi
theorem callsIn_n {P : Program} {n m : Nat} {f : Nat} {args : Array Value} {w : World} {R : Ending → World → Prop} (h : CallsIn Fence.wide n P f args w R) : CallsIn Fence.wide m P f args w R :=
  callsIn_wide.2 (callsIn_wide.1 h)

section
variable {P : Program} {α : Type}
/-- **A LOOP OVER AN ITERATOR.** -/
theorem range_law {n : Nat} {g : Operand} {ps : Array Tmp} {assign body : Code} {Q : Exit → Act → World → Prop} {a : Act} {w : World} {gf : Nat} {lb : Array Value} {E : α → Array Value → Prop} {xs : List α} {M : Nat → Prop}
    (hg : a.eval g = .func (.func gf) #[] lb) (eg : ∀ args w, (callFunc gf args).run P w = .ok (.enter gf args) w)
    (hit : Iter P gf lb E xs M w) (hps : ∀ x args, E x args → args.size = ps.size)
    (I : (Nat → Prop) → Nat → World → Prop) (Ix : Code → (Nat → Prop) → Nat → World → Prop) (hI : Stab0 I) (hIx : ∀ c, Stab0 (Ix c)) (h0 : I None' 0 w)
    (hround : ∀ (n l : Nat) (nb : Nat → Prop) (k : Nat) (hk : k < xs.length) (W : World) (args : Array Value), E xs[k] args → (∀ b, nb b → w.heap.size ≤ b ∧ b < W.heap.size) → nb l → Keeps M w W → I nb k W →
      assign.wpIn (Fence.wide.inRound l) n P (Exit.then (fun a' W' => Keeps (May nb M w.heap.size) W W' ∧ ∀ W'', Keeps (Just l) W' W'' → body.wpIn (Fence.wide.inRound l) n P (BodyPost M w.heap.size I Ix nb k W'') a' W'') (fun _ _ _ => False))
        { tmps := (ps.zip args).foldl (fun t (p, v) => t.setIfInBounds p v) a.tmps, defers := [] } W)
    (hdone : ∀ (D : Nat) (nb : Nat → Prop) (W : World), w.heap.size ≤ D → (∀ b, nb b → w.heap.size ≤ b) → nb D → Keeps M w W → I nb xs.length W → W.heap[D]? = some (.deferred (some [])) → Q .normal { a with defers := { target := .collected D, args := #[] } :: a.defers } W)
    (hstop : ∀ (D : Nat) (c : Code) (nb : Nat → Prop) (k : Nat) (W : World), w.heap.size ≤ D → (∀ b, nb b → w.heap.size ≤ b) → nb D → k < xs.length → Keeps M w W → Ix c nb (k + 1) W → W.heap[D]? = some (.deferred (some [])) →
      c.wpIn Fence.wide n P Q { a with defers := { target := .collected D, args := #[] } :: a.defers } W) :
    (Code.rangeFunc g ps assign body).wpIn Fence.wide n P Q a w := by
  refine wpIn_rangeFunc ?_
  intro fn hfn
  rw [show Fence.wide.round = none from rfl]
  obtain ⟨rec, hrec⟩ : ∃ rec : LoopState → Option Code → Loop, rec = fun st pe => { state := st, pending := pe, fn, tmps := a.tmps, params := ps, assign, body, defers := w.heap.size } := ⟨_, rfl⟩
  obtain ⟨W1, hW1⟩ : ∃ W1, (w.alloc (.deferred (some []))).alloc (.loop (rec .ready none)) = W1 := ⟨_, rfl⟩
  have hsz1 : W1.heap.size = w.heap.size + 2 := by rw [← hW1]; simp
  have hL1 : W1.heap[w.heap.size + 1]? = some (.loop (rec .ready none)) := by
    rw [← hW1]; have := World.alloc_heap_new (w.alloc (.deferred (some []))) (.loop (rec .ready none)); rwa [World.size_alloc] at this
  have hK1 : W1.heap[w.heap.size]? = some (.deferred (some [])) := by
    rw [← hW1]; exact (Below.heap_alloc _ _ _ (by simp)).trans (World.alloc_heap_new w _)
  have hb1 : ∀ nb, Keeps nb w W1 := fun nb => by rw [← hW1]; exact (Keeps.alloc nb w _).trans (Keeps.alloc nb _ _)
  obtain ⟨R, hR⟩ : ∃ R : Nat → Prop, R = fun b => b = w.heap.size ∨ b = w.heap.size + 1 := ⟨_, rfl⟩
  have hRl : R (w.heap.size + 1) := by rw [hR]; exact .inr rfl
  have hRd : R w.heap.size := by rw [hR]; exact .inl rfl
  have hRb : ∀ b, R b → w.heap.size ≤ b ∧ b < W1.heap.size := by rw [hR]; intro b hb; rcases hb with rfl | rfl <;> omega
  refine ⟨w.heap.size + 1, [{ target := .collected w.heap.size, args := #[] }], W1, { target := .fn (.func gf) lb, args := #[.func (.yield (w.heap.size + 1)) #[] #[]] }, W1, gf,
    #[.func (.yield (w.heap.size + 1)) #[] #[]] ++ lb, W1, ?_, ?_, ?_, ?_, (fun h => by cases h), ?_⟩
  · rw [← hW1, hrec]; exact run_enterLoop_outer _ _ _ _ _
  · simp only [resolve, hg]
    simp [go_sem]
  · intro f' hf'; trivial
  · simp [invoke, go_sem, eg]
  · have hIRk : ∀ {J : (Nat → Prop) → Nat → World → Prop}, Stab0 J → ∀ {nb nb' k W W'}, J (Or' nb R) k W → Keeps nb W W' → (∀ b, nb b → W1.heap.size ≤ b) → (∀ b, b < W.heap.size → nb' b → nb b) → J (Or' nb' R) k W' :=
      by intro J hJ nb nb' k W W' hj hk _ hn; exact hJ _ _ k W W' hj (hk.mono fun _ _ h => .inl h) (fun b hb h => h.imp (hn b hb) id)
    have hrk : ∀ {nb W W' b o}, Keeps nb W W' → (∀ b, nb b → W1.heap.size ≤ b) → R b → W.heap[b]? = some o → W'.heap[b]? = some o := fun hk hn hr ho =>
      hk.obj ho (fun h => by have := hn _ h; have := (hRb _ hr).2; omega)
    refine (callsIn_n (m := n - 1) (hit n (w.heap.size + 1)
      (fun nb k W => I (Or' nb R) k W ∧ W.heap[w.heap.size + 1]? = some (.loop (rec .ready none)) ∧ W.heap[w.heap.size]? = some (.deferred (some [])))
      (fun nb k W => ∃ c, Ix c (Or' nb R) k W ∧ W.heap[w.heap.size + 1]? = some (.loop (rec .done (some c))) ∧ W.heap[w.heap.size]? = some (.deferred (some [])))
      W1 (hb1 _)
      (fun nb nb' k W W' ⟨hi, hl, hk⟩ hkp hn _ hw => ⟨hIRk hI hi hkp hn hw, hrk hkp hn hRl hl, hrk hkp hn hRd hk⟩)
      (fun nb nb' k W W' ⟨c, hi, hl, hk⟩ hkp hn _ hw => ⟨c, hIRk (hIx c) hi hkp hn hw, hrk hkp hn hRl hl, hrk hkp hn hRd hk⟩)
      ?_ ⟨?_, hL1, hK1⟩)).mono ?_
    · -- one round
      rintro nb k hk W args hE hnb hkW ⟨hi, hl, hd⟩
      have hlt : w.heap.size + 1 < W.heap.size := lt_of_block hl
      have hy := run_yield (P := P) (args := args) hl (by rw [hrec]; exact hps _ _ hE)
      rw [hrec] at hy
      have hnbR : ∀ b, Or' nb R b → w.heap.size ≤ b ∧ b < W.heap.size := fun b hb => by
        rcases hb with hb | hb
        · have := hnb b hb; omega
        · have := hRb b hb; omega
      refine ⟨fn, _, assign, body, hy, roundIn_of_wpIn hfn (wpIn_mono (hround n (w.heap.size + 1) (Or' nb R) k hk W args hE hnbR (.inr hRl) hkW hi) ?_)⟩
      intro e a₁ W' hp
      cases e with
      | normal =>
        obtain ⟨hkm, hbd⟩ := hp
        have hl' : W'.heap[w.heap.size + 1]? = some (.loop (rec .ready none)) := hkm.obj hl (fun h => h.1 (.inr hRl))
        have hd' : W'.heap[w.heap.size]? = some (.deferred (some [])) := hkm.obj hd (fun h => h.1 (.inr hRd))
        have hlt' := lt_of_block hl'
        refine ⟨_, run_beginRound hl' (by rw [hrec]), ?_⟩
        have hW2 : Keeps (Just (w.heap.size + 1)) W' (W'.putObj (w.heap.size + 1) (.loop { rec .ready none with state := .busy })) := Keeps.putObj _ _ _ rfl
        have hl2 : (W'.putObj (w.heap.size + 1) (.loop { rec .ready none with state := .busy })).heap[w.heap.size + 1]? = some (.loop { rec .ready none with state := .busy }) := World.putObj_heap_same hlt'
        have hd2 : (W'.putObj (w.heap.size + 1) (.loop { rec .ready none with state := .busy })).heap[w.heap.size]? = some (.deferred (some [])) := (World.putObj_heap_other (by omega)).trans hd'
        have hwo : ∀ {b}, May nb M w.heap.size b → True := fun _ => trivial
        refine wpIn_mono (hbd _ hW2) ?_
        have fin : ∀ (jump : Option Code) (W3 : World), Keeps (May (Or' nb R) M w.heap.size) (W'.putObj (w.heap.size + 1) (.loop { rec .ready none with state := .busy })) W3 →
            (Instr.endRound (w.heap.size + 1) jump).run P W3 = .ok (.bool jump.isNone) (W3.putObj (w.heap.size + 1) (.loop (rec (if jump.isNone then .ready else .done) jump))) ∧
            (W3.putObj (w.heap.size + 1) (.loop (rec (if jump.isNone then .ready else .done) jump))).heap[w.heap.size + 1]? = some (.loop (rec (if jump.isNone then .ready else .done) jump)) ∧
            (W3.putObj (w.heap.size + 1) (.loop (rec (if jump.isNone then .ready else .done) jump))).heap[w.heap.size]? = some (.deferred (some [])) ∧
            Keeps (May nb M w.heap.size) W (W3.putObj (w.heap.size + 1) (.loop (rec (if jump.isNone then .ready else .done) jump))) := fun jump W3 hk3 => by
          have hl3 := hk3.obj hl2 (fun h => h.1 (.inr hRl))
          have hd3 := hk3.obj hd2 (fun h => h.1 (.inr hRd))
          have := run_endRound (P := P) jump hl3
          rw [hrec] at this ⊢
          refine ⟨this, World.putObj_heap_same (lt_of_block hl3), (World.putObj_heap_other (by omega)).trans hd3, ?_⟩
          have hmay : ∀ b, May (Or' nb R) M w.heap.size b → May nb M w.heap.size b := fun b hb => ⟨fun h => hb.1 (.inl h), hb.2⟩
          have hmayl : May nb M w.heap.size (w.heap.size + 1) := ⟨fun h => by have := (hnb _ h).1; omega, fun h => by omega⟩
          refine (((hkm.mono fun b _ h => hmay b h).trans (hW2.mono fun b _ h => by cases h; exact hmayl)).trans (?_ : Keeps (May nb M w.heap.size) _ W3)).trans (Keeps.putObj _ _ _ hmayl)
          have hk3' := hk3.mono (nb' := May nb M w.heap.size) fun b _ h => hmay b h
          exact hk3'
        rintro e a3 W3 hp
        cases e with
        | normal =>
          obtain ⟨hk3, hi3⟩ := hp
          obtain ⟨hr, hl4, hd4, hm4⟩ := fin none W3 hk3
          exact ⟨_, _, hr, .inl ⟨rfl, ⟨hI _ _ _ _ _ hi3 (Keeps.putObj _ _ _ (.inr hRl)) (fun _ _ h => h), hl4, hd4⟩, hm4⟩⟩
        | ret =>
          obtain ⟨hk3, hi3⟩ := hp
          obtain ⟨hr, hl4, hd4, hm4⟩ := fin (some .ret) W3 hk3
          exact ⟨_, _, hr, .inr ⟨rfl, ⟨.ret, hIx _ _ _ _ _ _ hi3 (Keeps.putObj _ _ _ (.inr hRl)) (fun _ _ h => h), hl4, hd4⟩, hm4⟩⟩
        | exit id =>
          obtain ⟨hk3, hi3⟩ := hp
          obtain ⟨hr, hl4, hd4, hm4⟩ := fin (some (.exit id)) W3 hk3
          exact ⟨_, _, hr, .inr ⟨rfl, ⟨.exit id, hIx _ _ _ _ _ _ hi3 (Keeps.putObj _ _ _ (.inr hRl)) (fun _ _ h => h), hl4, hd4⟩, hm4⟩⟩
        | goto t =>
          obtain ⟨hk3, hi3⟩ := hp
          obtain ⟨hr, hl4, hd4, hm4⟩ := fin (some (.goto t)) W3 hk3
          exact ⟨_, _, hr, .inr ⟨rfl, ⟨.goto t, hIx _ _ _ _ _ _ hi3 (Keeps.putObj _ _ _ (.inr hRl)) (fun _ _ h => h), hl4, hd4⟩, hm4⟩⟩
        | panic ch => exact hp.elim
        | outgrown => exact hp.elim
      | _ => exact hp.elim
    · exact hI _ _ _ _ _ h0 (hb1 _) (fun b hb h => by
        rcases h with h | h
        · exact h
        · have := (hRb b h).1; omega)
    · -- behind the iterator
      rintro e W2 ⟨⟨v, rfl⟩, (⟨nb, hnb, hkW, hi, hl, hk⟩ | ⟨nb, k, hnb, hlt, hkW, c, hi, hl, hk⟩)⟩
      · have hRnb : ∀ b, Or' nb R b → w.heap.size ≤ b := fun b hb => by
          rcases hb with hb | hb
          · have := hnb b hb; omega
          · exact (hRb b hb).1
        refine ⟨none, _, by have := run_endLoop (P := P) hl (by rw [hrec]; simp); rw [hrec] at this; exact this, ?_⟩
        exact hdone _ (Or' nb R) _ (Nat.le_refl _) hRnb (.inr hRd) (hkW.over (Keeps.putObj (nb := Just (w.heap.size + 1)) _ _ _ rfl) (fun i hi e => by cases e; omega)) (hI _ _ _ _ _ hi (Keeps.putObj _ _ _ (.inr hRl)) (fun _ _ h => h)) ((World.putObj_heap_other (by omega)).trans hk)
      · have hRnb : ∀ b, Or' nb R b → w.heap.size ≤ b := fun b hb => by
          rcases hb with hb | hb
          · have := hnb b hb; omega
          · exact (hRb b hb).1
        refine ⟨some c, _, by have := run_endLoop (P := P) hl (by rw [hrec]; simp); rw [hrec] at this; exact this, ?_⟩
        exact hstop _ c (Or' nb R) k _ (Nat.le_refl _) hRnb (.inr hRd) hlt (hkW.over (Keeps.putObj (nb := Just (w.heap.size + 1)) _ _ _ rfl) (fun i hi e => by cases e; omega)) (hIx c _ _ _ _ _ hi (Keeps.putObj _ _ _ (.inr hRl)) (fun _ _ h => h)) ((World.putObj_heap_other (by omega)).trans hk)
end
end Go.Proofs.Ythonibcfpojgpaa
