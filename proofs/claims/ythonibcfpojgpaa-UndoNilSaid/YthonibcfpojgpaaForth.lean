/-
  From one leaf to the next one.
-/
import Derived.Test.YthonibcfpojgpaaTop
import Derived.StillTailTactics
namespace Go.Proofs.Ythonibcfpojgpaa
open Go Go.RowKit
set_option linter.unusedVariables false

theorem region_tail {P : Program} {id : Nat} {Q : Exit → Act → World → Prop} {a : Act} {w : World} {l : List Oper} (n : Nat) (hm : P.follows .mixedOrders = true) (hB : Region.lexTailB .any l.toArray n = true)
    (h : wpStill P l.toArray w.drew (fun a' => wpList P l.toArray Q (l.drop n) a' w.drew) (l.take n) a) : (Code.region id l.toArray true).wp P Q a w := wp_region_still_tail n hm hB h
theorem ownsRow_heap {w w' : World} {base : Nat} {e : TypeId} {size n : Nat} {v : Value} {xs : List Value} (h : w.ownsRow base e size v n xs) (e1 : w'.heap = w.heap) : w'.ownsRow base e size v n xs := by
  unfold World.ownsRow at *
  rw [e1]
  exact h
theorem StackAt.heap {w w' : World} {base sb : Nat} {v : Value} {fs : List Fx} (h : StackAt w base sb v fs) (e : w'.heap = w.heap) : StackAt w' base sb v fs := by
  obtain ⟨h0, cs, h1, h2⟩ := h.own
  exact ⟨by rw [e]; exact h.box, h.from_, h0, cs, ownsRow_heap h1 e, h2⟩
theorem StackAt.drew {w : World} {base sb : Nat} {v : Value} {fs : List Fx} (h : StackAt w base sb v fs) : StackAt w.drew base sb v fs := h.heap rfl
theorem Keeps.stk {sb : Nat} {v0 v : Value} {w a b : World} (hk : Keeps (Stk sb v0) w a) (hv : v.ownBlock = v0.ownBlock ∨ ∃ b', v.ownBlock = some b' ∧ w.heap.size ≤ b') (h : Keeps (Stk sb v) a b) : Keeps (Stk sb v0) w b :=
  hk.over h fun i hi x => by
    rcases x with x | x
    · exact .inl x
    · rcases hv with hv | ⟨b', hv, hle⟩
      · exact .inr (by unfold Of at *; rw [← hv]; exact x)
      · unfold Of at x
        rw [hv] at x
        cases x
        omega
structure ForthInv (w0 : World) (M : Nat → Prop) (w : World) (base sb : Nat) (v : Value) (R : List Rw) (k : Nat) (wr : World) : Prop where
  ex : ∃ (fi : List Fx) (v' : Value), k = fi.length ∧ StackAt wr base sb v' fi ∧ rem fi = R ∧ InAll w0 M 0 fi ∧ Keeps (Stk sb v) w wr ∧ (v'.ownBlock = v.ownBlock ∨ ∃ b, v'.ownBlock = some b ∧ w.heap.size ≤ b)
/-- What going on to another leaf leaves. -/
structure OnLeaf (w0 : World) (M : Nat → Prop) (w : World) (base sb : Nat) (v : Value) (R : List Rw) (w' : World) : Prop where
  ex : ∃ (fi : List Fx) (f : Fx) (v' : Value) (l : List Rw), StackAt w' base sb v' (fi ++ [f]) ∧ rem (fi ++ [f]) = R ∧ InAll w0 M 0 fi ∧ f.top w0 M ∧ f.t = .leaf l ∧ f.next < l.length ∧ Keeps (Stk sb v) w w' ∧
    (v'.ownBlock = v.ownBlock ∨ ∃ b, v'.ownBlock = some b ∧ w.heap.size ≤ b)

set_option maxRecDepth 100000 in
set_option maxHeartbeats 1000000 in
theorem forth_calls {w0 w : World} {M : Nat → Prop} {base sb : Nat} {v : Value} {fi : List Fx} {f : Fx} (hb : w0.heap.size ≤ base) (hbw : base ≤ w.heap.size) (hk : Keeps M w0 w)
    (hs : StackAt w base sb v (fi ++ [f])) (hin : InAll w0 M 0 fi) (hrem : rem fi ≠ []) :
    Calls Try.prog 119 #[.pointer (some ⟨sb, 0, none⟩)] w fun e w' => e = .returned (.bool true) ∧ OnLeaf w0 M w base sb v (rem fi) w' := by
  obtain ⟨g, c, rfl, hgb, hgl, hlc, hcm, hgs, _, _, _, _⟩ := hs.topCells
  have hbx := cell_of_one hs.box
  have hfx := free_of_one hs.box
  have hpop := hs.pop rfl
  unfold maxLen at hcm
  have hst := Lib.hid hpop
  have hR : ∃ R, R = rem fi := ⟨_, rfl⟩
  obtain ⟨R, hR⟩ := hR
  rw [← hR] at hrem ⊢
  have HR := Lib.hid hR
  clear hR hpop
  generalize hm : fi.length = m at *
  have HM := Lib.hid hm
  clear hm
  have hwm : IntKind.i64.wrap (m : Int) = m := IntWalk.i64_in _ (by omega)
  have hmc : m ≤ c := by omega
  go_enter Try.func119, Try.ntmps119
  go_wp2
  refine region_tail 14 (by kernel_rfl) (by kernel_rfl) ?_
  simp only [List.take_succ_cons, List.take_zero, List.drop_succ_cons, List.drop_zero]
  repeat still_step
  refine wpStill_nil ?_
  go_wp2
  go_loopg [3] m (fun k _ wr => ForthInv w0 M w base sb (.slice (some ⟨g, 0, none⟩) (m + 1) c) R k wr)
  case atStart =>
    exact ⟨fi, _, HM.out.symm, hst.out.drew, HR.out.symm, hin, (Keeps.setCell _ _ _ (.inl rfl)).trans (Keeps.drew _ _), .inl rfl⟩
  case round =>
    obtain ⟨fi', v', hgk, hs', hr', hin', hk', hv'⟩ := hrel.ex
    clear hrel hbx hfx hst hgl
    rcases List.eq_nil_or_concat fi' with rfl | ⟨fi2, f2, rfl⟩
    · exact absurd hr'.symm hrem
    rw [List.concat_eq_append] at *
    have hkk : Keeps M w0 wr := hk.over hk' (fun b hb' x => (hs.old hb b hb' x).elim)
    obtain ⟨hin2, hf2, _⟩ := (InAll_append _ _ _).1 hin'
    obtain ⟨hnf, hgt, ks, b0, hft, hfit, hfd, hfn, hff, hfb⟩ := hf2
    obtain ⟨g2, c2, rfl, hgb2, hgl2, hlc2, hcm2, hgs2, e0, e1, e2, e3⟩ := hs'.topCells
    have hfit2 := hfit
    rw [hft] at hnf hfit2
    simp only [Tr.fit] at hfit2
    obtain ⟨hk2, hfitk⟩ := hfit2
    obtain ⟨g3, off, c3, ps, c0, _, hkc, hkm, hgl3, hgM3, hkid⟩ := hnf.kidsK (by omega) hkk
    obtain ⟨ck, cN, hnk⟩ := hkid f2.next hfn
    have hP2 := hnf.lt
    have hq := hnk.lt
    have hsb := hs'.from_
    have hsz := lt_of_block hs'.box
    have hbx2 := cell_of_one hs'.box
    have hfx2 := free_of_one hs'.box
    have hLs : (Tr.lists ks).length = (Tr.lists (ks.take f2.next)).length + ks[f2.next].list.length + (Tr.lists (ks.drop (f2.next + 1))).length := by
      have h1 := congrArg List.length (lists_split ks f2.next)
      have h2 := congrArg List.length (lists_drop ks f2.next hfn)
      rw [List.length_append] at h1 h2
      omega
    have hks : ks.length ≤ 1099511627776 := by
      have := lists_pos ks (fun k hk => fit_pos _ _ (hfitk k hk))
      rw [big_eq] at hfb
      omega
    have hb1 : f2.first + ks[f2.next].list.length ≤ 1099511627776 := by rw [big_eq] at hfb; omega
    have hst2 := hs'.setTop rfl (f2.first + ks[f2.next].list.length) (f2.next + 1)
    unfold maxLen at hkm hcm2
    have HH := Lib.hid (And.intro hgk (And.intro hr' (And.intro hft (And.intro hfit (And.intro hff (And.intro hLs (And.intro hst2 hfb)))))))
    have HK := Lib.hid hkid
    clear hgk hr' hft hfit hff hLs hst2 hkid hfb
    have hx1 : (f2.next : Int) < ks.length := by omega
    have hx2 : IntKind.i64.wrap ((f2.first : Int) + ks[f2.next].list.length) = (f2.first : Int) + ks[f2.next].list.length := IntWalk.i64_in _ (by omega)
    have hne1 : ¬ g2 = f2.p := by omega
    have hne2 : ¬ g2 = g3 := by omega
    have hne3 : ¬ g2 = ps f2.next := by omega
    generalize hm2 : fi2.length = m2 at *
    have HM2 := Lib.hid hm2
    clear hm2
    generalize hNN : ks[f2.next].list.length = N at *
    have HN := Lib.hid hNN
    clear hNN
    go_wp2_with (first | (go_at_call 118; go_must (refine (top_calls sb g2 m2 c2 wr hlc2 (by unfold maxLen; omega) hbx2).mono ?_; rintro e w1 ⟨rfl, k1, rfl⟩)))
    refine region_tail 23 (by kernel_rfl) (by kernel_rfl) ?_
    simp only [List.take_succ_cons, List.take_zero, List.drop_succ_cons, List.drop_zero]
    repeat still_step
    refine wpStill_nil ?_
    go_wp2
    have hst3 := HH.out.2.2.2.2.2.2.1
    obtain ⟨hst2, hkp2⟩ := hst3
    have hcast : ((f2.first + N : Nat) : Int) = (f2.first : Int) + N := by omega
    have hcast2 : ((f2.next + 1 : Nat) : Int) = (f2.next : Int) + 1 := by omega
    rw [hcast, hcast2] at hst2 hkp2
    have HS := Lib.hid (And.intro hst2 hkp2)
    clear hst2 hkp2 hcast hcast2
    by_cases hlt : f2.next + 1 < ks.length
    · have hlt' : (f2.next : Int) + 1 < ks.length := by omega
      have hnn : 0 ≤ (f2.next : Int) + 1 := by omega
      have hnt : ((f2.next : Int) + 1).toNat = f2.next + 1 := by omega
      obtain ⟨ck', cN', hnk'⟩ := HK.out (f2.next + 1) hlt
      have hst2 := HS.out.1
      have hkp2 := HS.out.2
      have hbr : base ≤ wr.heap.size := Nat.le_trans hbw hk'.size
      have HP := Lib.hid (And.intro hst2 hkp2)
      clear hst2 hkp2 HS
      go_quiet (fail)
      go_wp2
      refine region_tail 22 (by kernel_rfl) (by kernel_rfl) ?_
      simp only [List.take_succ_cons, List.take_zero, List.drop_succ_cons, List.drop_zero]
      repeat still_step
      refine wpStill_nil ?_
      go_wp2_with fail
      refine (down_calls (w0 := w0) (M := M) (base := base) (v := .slice (some ⟨g2, 0, none⟩) (m2 + 1) c2) (fs := fi2 ++ [⟨f2.t, f2.p, f2.first + N, f2.next + 1⟩])
        (t := ks[f2.next + 1]) (p := ps (f2.next + 1)) (h := hgt) (f := f2.first + N) (j := 0) hb ?b1 ?b2 ?b3 hnk' (hfitk _ (List.getElem_mem hlt)) (fit_pos _ _ (hfitk _ (List.getElem_mem hlt))) ?b4 _ _ ?b5 ?b6 ?b7).mono ?_
      case b1 => exact Nat.le_trans hbr (Keeps.size (Keeps.to HP.out.2 rfl rfl rfl rfl))
      case b2 => exact hkk.over (Keeps.to HP.out.2 rfl rfl rfl rfl) (fun i hi e => (Nat.lt_irrefl g2 (Nat.lt_of_lt_of_le (e ▸ hi) (Nat.le_trans hb hgb2))).elim)
      case b3 => exact HP.out.1.heap rfl
      case b4 =>
        obtain ⟨_, _, _, _, hff, hLs, _, hfb⟩ := HH.out
        have h1 := congrArg List.length (lists_drop ks (f2.next + 1) hlt)
        rw [List.length_append] at h1
        omega
      case b5 => simp
      case b6 => simp
      case b7 =>
        have hm2 : fi2.length = m2 := HM2.out
        rw [List.length_append, hm2]
        simp only [List.length_singleton]
        omega
      rintro e w1 ⟨rfl, fs', v2, hdown, hst', hkp', hv2⟩
      have HQ := Lib.hid (And.intro hdown (And.intro hst' (And.intro hkp' hv2)))
      clear hdown hst' hkp' hv2
      go_wp2
      go_ret
      obtain ⟨hdown, hst', hkp', hv2⟩ := HQ.out
      obtain ⟨_, hr', hft, hfit, hff, hLs, _, hfb⟩ := HH.out
      obtain ⟨hdr, fi3, f3, rfl, hin3, htop3, l3, hl3, hn3⟩ := hdown
      have hm2 : fi2.length = m2 := HM2.out
      refine ⟨rfl, ⟨fi2 ++ [⟨f2.t, f2.p, f2.first + N, f2.next + 1⟩] ++ fi3, f3, v2, l3, by simpa only [List.append_assoc] using hst', ?_, ?_, htop3, hl3, hn3, ?_, ?_⟩⟩
      · rw [List.append_assoc, rem_append, hdr, rem_append, ← hr', rem_append]
        simp only [rem, List.nil_append, Fx.rest, hft, List.drop_zero]
        rw [lists_drop ks (f2.next + 1) hlt, List.append_assoc]
      · refine (InAll_append _ _ _).2 ⟨(InAll_append _ _ _).2 ⟨hin2, ⟨by rw [hft]; exact hnf, hgt, ks, b0, hft, hfit, hm2 ▸ hfd, hlt, ?_, hfb⟩, trivial⟩, ?_⟩
        · rw [lists_take ks f2.next hfn, List.length_append]
          have hNN : ks[f2.next].list.length = N := HN.out
          simp only
          omega
        · simpa using hin3
      · refine hk'.stk hv' (Keeps.trans ?_ hkp')
        exact Keeps.to (HP.out.2.mono fun b _ e => by subst e; exact .inr rfl) rfl rfl rfl rfl
      · rcases hv2 with hv2 | ⟨b', hv2, hle⟩
        · rw [hv2]; exact hv'
        · refine .inr ⟨b', hv2, Nat.le_trans hk'.size (Nat.le_trans (Keeps.size HP.out.2) ?_)⟩
          exact hle
    · have hlt' : decide ((f2.next : Int) + 1 < ks.length) = false := by simp; omega
      have hwm2 : IntKind.i64.wrap (m2 : Int) = m2 := IntWalk.i64_in _ (by omega)
      have hmc2 : m2 ≤ c2 := by omega
      go_quiet (fail)
      go_wp2
      refine region_tail 14 (by kernel_rfl) (by kernel_rfl) ?_
      simp only [List.take_succ_cons, List.take_zero, List.drop_succ_cons, List.drop_zero]
      repeat still_step
      refine wpStill_nil ?_
      go_wp2
      go_roundg m2
      case measure =>
        have hgk := HH.out.1
        have hm2 : fi2.length = m2 := HM2.out
        rw [hgk, List.length_append, hm2]
        simp
      case rel =>
        obtain ⟨_, hr', hft, hfit, hff, hLs, _, hfb⟩ := HH.out
        have hm2 : fi2.length = m2 := HM2.out
        have hpp := StackAt.pop HS.out.1 hm2
        refine ⟨fi2, .slice (some ⟨g2, 0, none⟩) m2 c2, hm2.symm, hpp.heap rfl, ?_, hin2, ?_, ?_⟩
        · rw [← hr', rem_append]
          have he : f2.next + 1 = ks.length := by omega
          simp only [rem, List.nil_append, Fx.rest, hft]
          rw [he, List.drop_length]
          simp [Tr.lists]
        · refine hk'.stk hv' ?_
          exact Keeps.to ((HS.out.2.mono (nb' := Stk sb (.slice (some ⟨g2, 0, none⟩) (m2 + 1) c2)) fun b _ e => by subst e; exact .inr rfl).trans (Keeps.setCell _ ⟨sb, 0, none⟩ (.slice (some ⟨g2, 0, none⟩) m2 c2) (.inl rfl))) rfl rfl rfl rfl
        · exact hv'
end Go.Proofs.Ythonibcfpojgpaa
