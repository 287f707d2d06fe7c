/-
  The stack of frames in memory; going down to a leaf.
-/
import Derived.Test.YthonibcfpojgpaaTree
import Derived.Deep.LoopGhost
import Derived.Outline
import Derived.Deep.DeepMust
namespace Go.Proofs.Ythonibcfpojgpaa
open Go Go.RowKit
set_option linter.unusedVariables false

/-- The frames fs (the root's first) lie in the slice v, which the variable in block sb holds. -/
structure StackAt (w : World) (base sb : Nat) (v : Value) (fs : List Fx) : Prop where
  box : w.heap[sb]? = some (.cells #[v] 218 (0, 0))
  from_ : base ≤ sb
  own : rFx.Own 224 w base (Just sb) v fs
def Stk (sb : Nat) (v : Value) : Nat → Prop := fun b => b = sb ∨ Of v b
theorem StackAt.keep {w w' : World} {base sb : Nat} {v : Value} {fs : List Fx} {nb : Nat → Prop} (h : StackAt w base sb v fs) (k : Keeps nb w w') (hn : ∀ b, Stk sb v b → ¬ nb b) : StackAt w' base sb v fs := by
  refine ⟨k.obj h.box (hn _ (.inl rfl)), h.from_, ?_⟩
  obtain ⟨h0, cs, h1, h2⟩ := h.own
  refine ⟨h0, cs, ?_, h2.imp fun _ _ hx => hx⟩
  refine ⟨h1.1, ?_⟩
  rcases h1.2 with hx | ⟨g, cap, cur, rfl, hb, hh, r⟩
  · exact .inl hx
  · exact .inr ⟨g, cap, cur, rfl, hb, k.obj hh (hn _ (.inr rfl)), r⟩

theorem StackAt.old {w : World} {base sb n : Nat} {v : Value} {fs : List Fx} (h : StackAt w base sb v fs) (hn : n ≤ base) (b : Nat) (hb : b < n) (hx : Stk sb v b) : False := by
  rcases hx with rfl | hx
  · have := h.from_; omega
  · have := (h.own.lt hx).1; omega
/-- What going down from a node to its j-th thing leaves: frames, whose things to come are the node's from the j-th on. -/
structure DownTo (w0 : World) (M : Nat → Prop) (d : Nat) (t : Tr) (j : Nat) (fs : List Fx) : Prop where
  rem : rem fs = t.list.drop j
  ne : ∃ fi f, fs = fi ++ [f] ∧ InAll w0 M d fi ∧ f.top w0 M ∧ (∃ l, f.t = .leaf l ∧ f.next < l.length)


structure DownInv (w0 : World) (M : Nat → Prop) (w : World) (sb : Nat) (v0 : Value) (base : Nat) (fs : List Fx) (t0 : Tr) (j0 : Nat) (i : Int) (h0 h : Nat) (n first : Value) (wr : World) : Prop where
  ex : ∃ (t : Tr) (p f j : Nat) (fi : List Fx) (v : Value), fi.length + h ≤ h0 ∧ n = .pointer (some ⟨p, 0, none⟩) ∧ first = .int .i64 f ∧ i = (f : Int) + j ∧ NodeAt w0 M t p ∧ t.fit h ∧ j < t.list.length ∧
    f + t.list.length ≤ big ∧ t0.list.drop j0 = t.list.drop j ++ rem fi ∧ InAll w0 M fs.length fi ∧ StackAt wr base sb v (fs ++ fi) ∧ Keeps (Stk sb v0) w wr ∧
    (v.ownBlock = v0.ownBlock ∨ ∃ b, v.ownBlock = some b ∧ w.heap.size ≤ b)
/-- Another frame on top. -/
theorem StackAt.push {w w1 : World} {base sb : Nat} {v v1 : Value} {fs : List Fx} {f : Fx} (h : StackAt w base sb v fs) (ho : rFx.Own 224 w1 base (Just sb) v1 (fs ++ [f]))
    (hg : w.grownBy w1 v.ownBlock) : StackAt (w1.setCell ⟨sb, 0, none⟩ v1) base sb v1 (fs ++ [f]) := by
  have hne : v.ownBlock ≠ some sb := fun e => h.own.1 sb e rfl
  have hb1 : w1.heap[sb]? = some (.cells #[v] 218 (0, 0)) := (hg.block sb (lt_of_block h.box) (fun e => hne e.symm)).trans h.box
  exact ⟨one_setCell hb1, h.from_, ho.keep (Keeps.setCell w1 ⟨sb, 0, none⟩ v1 rfl)⟩
theorem StackAt.pushed {w w1 : World} {sb : Nat} {v v0 v1 : Value} {w00 : World} (hk : Keeps (Stk sb v0) w00 w) (hv : v.ownBlock = v0.ownBlock ∨ ∃ b, v.ownBlock = some b ∧ w00.heap.size ≤ b)
    (hg : w.grownBy w1 v.ownBlock) : Keeps (Stk sb v0) w00 (w1.setCell ⟨sb, 0, none⟩ v1) := by
  refine ⟨hg.os.trans hk.os, hg.tape.trans hk.tape, hg.output.trans hk.output, by simpa using Nat.le_trans hk.size hg.size, fun b hb hn => ?_⟩
  rw [Below.heap_setCell _ _ _ _ (fun e => hn (.inl e)), hg.block b (Nat.lt_of_lt_of_le hb hk.size) (fun e => ?_)]
  · exact hk.block b hb hn
  · rcases hv with hv | ⟨b', hv, hle⟩
    · exact hn (.inr (by unfold Of; rw [← hv]; exact e.symm))
    · rw [hv] at e
      cases e
      omega

structure KidInv (ks : List Tr) (f' : Nat) (i : Int) (first k : Value) : Prop where
  ex : ∃ kn f1 j1 : Nat, kn < ks.length ∧ k = .int .i64 kn ∧ first = .int .i64 f1 ∧ i = (f1 : Int) + j1 ∧ f1 = f' + (Tr.lists (ks.take kn)).length ∧ j1 < (Tr.lists (ks.drop kn)).length
theorem of_cons (g : Nat) (A : Option Addr) (n c : Nat) : A = some ⟨g, 0, none⟩ → (Value.slice A n c).ownBlock = some g := fun h => by subst h; rfl
theorem take0 {ks : List Tr} : Tr.lists (ks.take 0) = [] := by simp [Tr.lists]

set_option maxHeartbeats 1000000 in
theorem down_calls {w0 w : World} {M : Nat → Prop} {base sb : Nat} {v : Value} {fs : List Fx} {t : Tr} {p h f j : Nat} (hb : w0.heap.size ≤ base) (hbw : base ≤ w.heap.size) (hk : Keeps M w0 w)
    (hs : StackAt w base sb v fs) (hn : NodeAt w0 M t p) (hf : t.fit h) (hj : j < t.list.length) (hB : f + t.list.length ≤ big) (fI i : Int) (hfI : fI = (f : Int)) (hi : i = (f : Int) + j) (hd : fs.length + h ≤ big) :
    Calls Try.prog 116 #[.pointer (some ⟨sb, 0, none⟩), .pointer (some ⟨p, 0, none⟩), .int .i64 fI, .int .i64 i] w
      fun e w' => e = .returned (.tuple #[]) ∧ ∃ fs' v', DownTo w0 M fs.length t j fs' ∧ StackAt w' base sb v' (fs ++ fs') ∧ Keeps (Stk sb v) w w' ∧ (v'.ownBlock = v.ownBlock ∨ ∃ b, v'.ownBlock = some b ∧ w.heap.size ≤ b) := by
  subst hfI
  go_enter Try.func116, Try.ntmps116
  go_wp2
  go_loopg [1, 2] h (fun k n first wr => DownInv w0 M w sb v base fs t j i h k n first wr)
  case atStart => exact ⟨⟨t, p, f, j, [], v, by simp, rfl, rfl, hi, hn, hf, hj, hB, by simp [rem], trivial, by simpa using hs, .refl _ _, .inl rfl⟩⟩
  case round =>
    clear hi
    obtain ⟨t', p', f', j', fi, v', hfl, rfl, rfl, hi', hn', hf', hj', hB', hrem, hinn, hs', hk', hv'⟩ := hrel.ex
    have hkk : Keeps M w0 wr := hk.over hk' (fun b hb' x => (hs.old hb b hb' x).elim)
    have hLl : (fs ++ fi).length ≤ big := by rw [List.length_append]; omega
    have hbx := cell_of_one hs'.box
    have hfx := free_of_one hs'.box
    obtain ⟨Av, cv, rfl, hcv, hmv⟩ := hs'.own.shape
    have hown := hs'.own
    unfold maxLen at hmv
    rw [big_eq] at hB' hLl
    have hbr : base ≤ wr.heap.size := Nat.le_trans hbw hk'.size
    have hsz : sb < wr.heap.size := lt_of_block hs'.box
    have hi0 : 0 ≤ i := by omega
    have hi1 : i ≤ 1099511627776 := by omega
    have hi2 : (f' : Int) ≤ 1099511627776 := by omega
    clear hrel hs hn hf hj hB
    cases gk with
    | zero =>
      cases t' with
      | node ks => simp [Tr.fit] at hf'
      | leaf l =>
        obtain ⟨A, c, c0, c1, hsl, hlc, hcm⟩ := (hn'.keep hkk).leafCells
        rw [list_leaf] at hj' hB' hrem
        have hp : rFx.r wr (Or' (Just sb) (Of (.slice Av (fs ++ fi).length cv))) ⟨.leaf l, p', f', j'⟩ [.pointer (some ⟨p', 0, none⟩), .int .i64 f', .int .i64 (i - f')] := by
          show _ = Fx.vals _
          rw [hi', show ((f' : Int) + j' - f') = j' from by omega]; rfl
        have HH := Lib.hid (And.intro hi' hrem)
        clear hi' hrem hsl
        generalize hL : fs ++ fi = L at *
        have HL := Lib.hid hL
        clear hL
        go_wp2_with (first
          | (at_builtin; go_must (refine wpList_append1 rFx rfl (.tmp 77) (.tmp 84) 216 224 _ 24 rfl uSlFrame iFrame rfl (by decide) base (Just sb) (.slice Av L.length cv) L ⟨.leaf l, p', f', j'⟩ [.pointer (some ⟨p', 0, none⟩), .int .i64 f', .int .i64 (i - f')] (by rfl) (by rfl) hown hp hbr (fun b hb => hb ▸ hsz) (by omega) (by omega) ?_)))
        intro v1 w1 hown1 hg1 hat1
        have hst := hs'.push hown1 hg1
        have hkp := StackAt.pushed (v1 := v1) hk' hv' hg1
        obtain ⟨A1, c1', rfl, hcv1, hmv1⟩ := hown1.shape
        have hb1 : w1.cell? ⟨sb, 0, none⟩ = some (.slice Av L.length cv) := by
          rw [World.cell?_of_block (w := wr) (hg1.block sb hsz (fun e => hs'.own.1 sb e.symm rfl))]; exact hbx
        have hf1 : w1.frozen? ⟨sb, 0, none⟩ = false := by
          rw [World.frozen?_of_block (w := wr) (hg1.block sb hsz (fun e => hs'.own.1 sb e.symm rfl))]; exact hfx
        have HS := Lib.hid (And.intro hst hkp)
        clear hst hkp hown1 hg1 hown hs' hp c0 c1 hbx hfx
        go_wp2
        go_end0
        obtain ⟨hst, hkp⟩ := HS.out
        obtain ⟨hi', hrem⟩ := HH.out
        obtain rfl : fs ++ fi = L := HL.out
        have hln : (fs ++ fi ++ [(⟨.leaf l, p', f', j'⟩ : Fx)]).length = (fs ++ fi).length + 1 := by rw [List.length_append]; rfl
        rw [hln] at hst hkp hat1
        refine ⟨rfl, fi ++ [⟨.leaf l, p', f', j'⟩], _, ⟨?_, fi, _, rfl, hinn, ⟨hn', l, rfl, ?_, by rw [big_eq]; omega⟩, l, rfl, hj'⟩, by rw [← List.append_assoc]; exact hst, hkp, ?_⟩
        · rw [rem_append, hrem]; simp [rem, Fx.rest]
        · simpa [Tr.fit] using hf'
        · rcases hat1 with e | ⟨b', e, hle⟩
          · rw [e]; simpa only [List.length_append] using hv'
          · exact .inr ⟨b', e, Nat.le_trans hk'.size hle⟩
    | succ hgt =>
      cases t' with
      | leaf l => simp [Tr.fit] at hf'
      | node ks =>
        simp only [Tr.fit] at hf'
        obtain ⟨hk2, hfit⟩ := hf'
        rw [list_node] at hj' hB' hrem
        obtain ⟨g, off, c, ps, c0, c1, hkc, hkm, hgl, hgM, hkid⟩ := hn'.kidsK (by omega) hkk
        have hks : ks.length ≤ 1099511627776 := by
          have := lists_pos ks (fun k hk => fit_pos _ _ (hfit k hk))
          omega
        have HH := Lib.hid (And.intro hi' hrem)
        have hLs : ∀ k, k < ks.length → (Tr.lists ks).length = (Tr.lists (ks.take k)).length + (Tr.lists (ks.drop k)).length := fun k _ => by
          conv => lhs; rw [lists_split ks k]
          rw [List.length_append]
        unfold maxLen at hkm
        generalize hL : fs ++ fi = L at *
        have HL := Lib.hid hL
        have hI : i = f' + j' := hi'
        clear hL hrem hi'
        go_wp2
        go_loop [2, 8] (fun first k => KidInv ks f' i first k) (fun _ k => ks.length - (intOf k).toNat)
        case atStart => exact ⟨⟨0, f', j', by omega, rfl, rfl, hI, by simp [Tr.lists], by simpa using hj'⟩⟩
        case round =>
          clear hI
          obtain ⟨kn, f1, j1, hkn, rfl, rfl, hI1, hf1, hj1⟩ := hrel.ex
          clear hrel
          obtain ⟨ck, cN, hnk⟩ := hkid kn hkn
          have hLk := hLs kn hkn
          have hdr := lists_drop ks kn hkn
          have htk := lists_take ks kn hkn
          have hlast : kn + 1 = ks.length → Tr.lists (ks.drop (kn + 1)) = [] := fun e => by rw [e, List.drop_length]; simp [Tr.lists]
          have hdl := congrArg List.length hdr
          have htl := congrArg List.length htk
          rw [List.length_append] at hdl htl
          have HJ := Lib.hid (And.intro hI1 (And.intro hf1 (And.intro hdr (And.intro htk (And.intro hdl (And.intro htl (And.intro hLk hlast)))))))
          have hb1 : f1 + ks[kn].list.length ≤ 1099511627776 := by omega
          have hcase : (kn + 1 < ks.length ∧ (f1 : Int) + ks[kn].list.length ≤ i) ∨ ((kn + 1 = ks.length ∨ (kn + 1 < ks.length ∧ i < (f1 : Int) + ks[kn].list.length)) ∧ j1 < ks[kn].list.length) := by
            by_cases h1 : kn + 1 < ks.length
            · by_cases h2 : (f1 : Int) + ks[kn].list.length ≤ i
              · exact .inl ⟨h1, h2⟩
              · exact .inr ⟨.inr ⟨h1, by omega⟩, by omega⟩
            · have := congrArg List.length (hlast (by omega))
              simp only [List.length_nil] at this
              exact .inr ⟨.inl (by omega), by omega⟩
          clear hI1 hf1 hdr htk hlast hdl htl hLk hkid hLs
          generalize hNN : ks[kn].list.length = N at *
          have HN := Lib.hid hNN
          clear hNN
          rcases hcase with ⟨h1, h2⟩ | ⟨h1, h2⟩
          · go_wp2
            go_round
            case rel =>
              obtain ⟨hI1, hf1, hdr, htk, hdl, htl, hLk, _⟩ := HJ.out
              have hNN := HN.out
              exact ⟨⟨kn + 1, f1 + N, j1 - N, by omega, by go_num, by go_num, by omega, by omega, by omega⟩⟩
            case measure => simp [intOf]; omega
          · have hp : rFx.r wr (Or' (Just sb) (Of (.slice Av L.length cv))) ⟨.node ks, p', f1, kn⟩ [.pointer (some ⟨p', 0, none⟩), .int .i64 f1, .int .i64 kn] := rfl
            have hpl : p' < w0.heap.size := hn'.lt
            have hsb := hs'.from_
            have hne1 : ¬ sb = p' := by omega
            have hne2 : ¬ sb = g := by omega
            rcases h1 with h1 | ⟨h1, h3⟩
            all_goals
              go_wp2_with (first
                | (at_builtin; go_must (refine wpList_append1 rFx rfl (.tmp 57) (.tmp 62) 216 224 _ 24 rfl uSlFrame iFrame rfl (by decide) base (Just sb) (.slice Av L.length cv) L ⟨.node ks, p', f1, kn⟩ [.pointer (some ⟨p', 0, none⟩), .int .i64 f1, .int .i64 kn] (by rfl) (by rfl) hown hp hbr (fun b hb => hb ▸ hsz) (by omega) (by omega) ?_)))
              intro v1 w1 hown1 hg1 hat1
              have hst := hs'.push hown1 hg1
              have hkp := StackAt.pushed (v1 := v1) hk' hv' hg1
              obtain ⟨A1, c1', rfl, hcv1, hmv1⟩ := hown1.shape
              have hbx1 : w1.cell? ⟨sb, 0, none⟩ = some (.slice Av L.length cv) := by
                rw [World.cell?_of_block (w := wr) (hg1.block sb hsz (fun e => hs'.own.1 sb e.symm rfl))]; exact hbx
              have hfx1 : w1.frozen? ⟨sb, 0, none⟩ = false := by
                rw [World.frozen?_of_block (w := wr) (hg1.block sb hsz (fun e => hs'.own.1 sb e.symm rfl))]; exact hfx
              have hc01 := hg1.cell c0 (fun e => by have := (hs'.own.lt e.symm).1; simp only at this; omega)
              have hck1 := hg1.cell ck (fun e => by have := (hs'.own.lt e.symm).1; simp only at this; omega)
              have HS := Lib.hid (And.intro hst (And.intro hkp hat1))
              have HK := Lib.hid hs'
              clear hst hkp hown1 hg1 hown hs' hp c0 c1 cN ck hbx hfx hat1
              go_wp2
              go_roundg hgt
              case measure => omega
              case rel =>
                obtain ⟨hst, hkp, hat1⟩ := HS.out
                obtain ⟨hi', hrem⟩ := HH.out
                obtain ⟨hI1, hf1, hdr, htk, hdl, htl, hLk, _⟩ := HJ.out
                obtain rfl : fs ++ fi = L := HL.out
                have hNN := HN.out
                have hln : (fs ++ fi ++ [(⟨.node ks, p', f1, kn⟩ : Fx)]).length = (fs ++ fi).length + 1 := by rw [List.length_append]; rfl
                rw [hln] at hst hkp hat1
                refine ⟨⟨ks[kn], _, f1, j1, fi ++ [⟨.node ks, p', f1, kn⟩], _, by rw [List.length_append]; simp only [List.length_singleton]; omega, rfl, rfl, hI1, hnk, hfit _ (List.getElem_mem hkn), by omega, by rw [big_eq]; omega, ?_, ?_, by rw [← List.append_assoc]; exact hst, hkp, ?_⟩⟩
                · rw [hrem, rem_append]
                  simp only [rem, List.nil_append, Fx.rest, ← List.append_assoc]
                  congr 1
                  have hj : j' = (Tr.lists (ks.take kn)).length + j1 := by omega
                  conv => lhs; rw [lists_split ks kn, hj]
                  rw [← List.drop_drop, List.drop_left, hdr, List.drop_append_of_le_length (by omega)]
                · exact (InAll_append _ _ _).2 ⟨hinn, ⟨hn', hgt, ks, f', rfl, by simp only [Tr.fit]; exact ⟨hk2, hfit⟩, by omega, hkn, hf1, by rw [big_eq]; exact hB'⟩, trivial⟩
                · rcases hat1 with e | ⟨b', e, hle⟩
                  · rw [e]; exact hv'
                  · exact .inr ⟨b', e, Nat.le_trans hk'.size hle⟩
end Go.Proofs.Ythonibcfpojgpaa
