/-
  Which blocks are reached: blocks.Reach. Conditions: those written in each statement.
-/
import Derived.Test.YtbdofidapddgaaaBh
import Derived.Test.YtbdofidapddgaaaRl
import Derived.Laws.EntriesVeiled
namespace Go.Proofs.Ytbdofidapddgaaa
open Go.RowKit
set_option linter.unusedVariables false
set_option linter.unusedSimpArgs false
def bC (S : List Bool) : List Value := S.map Value.bool
theorem bC_at {S : List Bool} {i : Nat} {b : Bool} (h : S[i]? = some b) : (bC S)[i]? = some (.bool b) := by
  unfold bC
  rw [List.getElem?_map, h]
  rfl
theorem bC_set (S : List Bool) (i : Nat) (b : Bool) : (bC S).set i (.bool b) = bC (S.set i b) := by
  unfold bC
  rw [List.map_set]
abbrev wkV (g1 g3 g4 : Nat) : Value := .func (.func 37) #[] #[.pointer (some ⟨g3, 0, none⟩), .pointer (some ⟨g1, 0, none⟩), .pointer (some ⟨g4, 0, none⟩)]
/-- What the walk's function holds, in a world. -/
structure WkF (A : Option Addr) (n c : Nat) (l : List BD) (B g1 g3 g4 gs : Nat) (S : List Bool) (W : World) : Prop where
  blks : BksAt W B A n l
  v1 : W.cell? ⟨g1, 0, none⟩ = some (.slice A n c)
  v3 : W.cell? ⟨g3, 0, none⟩ = some (.slice (some ⟨gs, 0, none⟩) n n)
  v4 : W.cell? ⟨g4, 0, none⟩ = some (wkV g1 g3 g4)
  row : RowL W B 4 1 (.slice (some ⟨gs, 0, none⟩) n n) n (bC S)
  far : B ≤ W.heap.size ∧ B ≤ gs ∧ g1 < W.heap.size ∧ g3 < W.heap.size ∧ g4 < W.heap.size ∧ g1 ≠ gs ∧ g3 ≠ gs ∧ g4 ≠ gs
section
variable {A : Option Addr} {n c : Nat} {l : List BD} {B g1 g3 g4 gs : Nat} {S S' : List Bool} {W V : World}
theorem WkF.set (h : WkF A n c l B g1 g3 g4 gs S W) (hg : W.grownBy V (some gs)) (hr : RowL V B 4 1 (.slice (some ⟨gs, 0, none⟩) n n) n (bC S')) : WkF A n c l B g1 g3 g4 gs S' V := by
  obtain ⟨f1, f2, f3, f4, f5, f6, f7, f8⟩ := h.far
  have hz := hg.size
  exact ⟨h.blks.grown hg f1 (fun g e => by injection e with e; omega), (World.cell?_of_block (hg.block g1 f3 (fun e => f6 (by injection e)))).trans h.v1, (World.cell?_of_block (hg.block g3 f4 (fun e => f7 (by injection e)))).trans h.v3,
    (World.cell?_of_block (hg.block g4 f5 (fun e => f8 (by injection e)))).trans h.v4, hr, by omega, f2, by omega, by omega, by omega, f6, f7, f8⟩
theorem WkF.len (h : WkF A n c l B g1 g3 g4 gs S W) : S.length = n := by
  have := h.row.1
  unfold bC at this
  simpa using this
theorem WkF.cell (h : WkF A n c l B g1 g3 g4 gs S W) {i : Nat} {b : Bool} (hi : S[i]? = some b) : W.cell? ⟨gs, i, none⟩ = some (.bool b) := by
  rw [h.row.cell i (by have := (List.getElem?_eq_some_iff.1 hi).1; have := h.len; omega)]
  exact bC_at hi
end
def WkP (A : Option Addr) (n c : Nat) (l : List BD) (B g1 g3 g4 gs : Nat) (S : List Bool) (b : Nat) (w : World) (e : Ending) (w' : World) : Prop :=
  ∃ S', e = .returned (.tuple #[]) ∧ Dq l S S' b ∧ WkF A n c l B g1 g3 g4 gs S' w' ∧ w.grownBy w' (some gs)
theorem next_in {l : List BD} (h : mayL l = true) {b : Nat} {x : BD} (hx : l[b]? = some x) {y : Int} (hy : y ∈ x.next) : 0 ≤ y ∧ y < l.length := by
  have h1 := mayL_at h hx
  unfold mayAt at h1
  rw [Bool.and_eq_true, List.all_eq_true] at h1
  have := h1.2 y hy
  unfold inR at this
  simp at this
  exact this
set_option maxRecDepth 100000 in
set_option maxHeartbeats 4000000 in
theorem walk_any (A : Option Addr) (n c : Nat) (l : List BD) (B g1 g3 g4 gs : Nat) (hmy : Hid (mayL l = true)) (hm : n < 9223372036854775808) (k : Nat) : ∀ (b : Nat) (S : List Bool) (w : World), cntF S ≤ k → b < n → WkF A n c l B g1 g3 g4 gs S w →
    Calls Try.prog 37 #[.int .i64 b, .pointer (some ⟨g3, 0, none⟩), .pointer (some ⟨g1, 0, none⟩), .pointer (some ⟨g4, 0, none⟩)] w (WkP A n c l B g1 g3 g4 gs S b w) := by
  induction k with
  | zero =>
    intro b S w hk hb hf
    have HF := hide hf
    have c1 := hf.v1
    have c3 := hf.v3
    have c4 := hf.v4
    rcases bool_at (S := S) (i := b) (by rw [hf.len]; exact hb) with hq | hq
    · have HQ := hide hq
      have cb := hf.cell hq
      clear hf hq
      go_enter Try.func37, Try.ntmps37
      go_wp2_with fail
      go_end0
      exact ⟨S, rfl, Dq.same HQ.out, HF.out, World.grownBy.refl w _⟩
    · exfalso
      have := cnt_set hq
      omega
  | succ k ih =>
    intro b S w hk hb hf
    have HF := hide hf
    have c1 := hf.v1
    have c3 := hf.v3
    have c4 := hf.v4
    rcases bool_at (S := S) (i := b) (by rw [hf.len]; exact hb) with hq | hq
    · have HQ := hide hq
      have cb := hf.cell hq
      clear hf hq
      go_enter Try.func37, Try.ntmps37
      go_wp2_with fail
      go_end0
      exact ⟨S, rfl, Dq.same HQ.out, HF.out, World.grownBy.refl w _⟩
    · have HQ := hide hq
      have cb := hf.cell hq
      have fb := hf.row.frozen b
      have hst := hf.row.stored b (.bool true)
      rw [bC_set] at hst
      have HST := hide hst
      have HK := hide hk
      clear hf hq hst hk
      go_enter Try.func37, Try.ntmps37
      go_upto_region 2 with fail
      have HF2 := hide (HF.out.set HST.out.2 HST.out.1)
      have HG2 := hide HST.out.2
      generalize w.setCell ⟨gs, b, none⟩ (.bool true) = w2 at HF2 HG2 ⊢
      clear c1 c3 c4 cb fb HST
      have c1 := HF2.out.v1
      obtain ⟨ad, x, s, rfl, hab, hx, hxw, hns, hcell⟩ := HF2.out.blks.at_ hb
      have HX := hide hx
      obtain ⟨fr, tt, nx⟩ := x
      dsimp only at hns
      obtain ⟨As, cs, rfl⟩ := hns.form
      have e2 := hcell 2 _ rfl
      obtain ⟨p, hp⟩ : ∃ p, ad.add (b * 3) = p := ⟨_, rfl⟩
      rw [hp] at e2
      simp [Addr.add] at e2
      obtain ⟨m, hm2⟩ : ∃ v, nx.length = v := ⟨_, rfl⟩
      rw [hm2] at hns e2
      have HM := hide hm2
      have hml : m < 9223372036854775808 := hns.len.2.2
      have HS := hide (fun (v : World) (h : WkF (some ad) n c l B g1 g3 g4 gs S v) => h)
      have HNX := hide hns
      clear hcell hxw hx hm2
      go_wp2_with fail
      go_loopw [20] (fun i wr => ∃ (j : Nat) (S1 : List Bool), j ≤ m ∧ i = .int .i64 j ∧ Lp l S S1 b j nx ∧ WkF (some ad) n c l B g1 g3 g4 gs S1 wr ∧ w2.grownBy wr (some gs)) (fun i _ => m - (intOf i).toNat)
      case atStart => exact ⟨0, _, by omega, rfl, Lp.start HQ.out, HF2.out, World.grownBy.refl w2 _⟩
      case round =>
        obtain ⟨j, S1, hj, rfl, hlp, hf, hgr⟩ := hrel
        have HLP := hide hlp
        have HFr := hide hf
        have HGr := hide hgr
        have c4 := hf.v4
        clear hlp hf hgr
        by_cases hlj : j < m
        · have hbf := HF2.out.far
          obtain ⟨f1, f2, _⟩ := hbf
          have hnr := HNX.out.grown HGr.out f1 (fun g e => by injection e with e; omega)
          obtain ⟨ad3, y, rfl, _, hy, hyi, hcy⟩ := hnr.at_ hlj
          have HY := hide hy
          obtain ⟨hy0, hy1⟩ := next_in hmy.out HX.out (List.mem_of_getElem? hy)
          have HLN := hide HFr.out.blks.len
          have hyn : y < (n : Int) := by have := HLN.out; omega
          obtain ⟨yn, rfl⟩ := Int.eq_ofNat_of_zero_le hy0
          have hyn' : yn < n := by omega
          have HIH := hide (ih yn S1 wr (by have := HLP.out.less; have := HK.out; omega) hyn' HFr.out)
          clear hy hyi hnr hy1 f1 f2
          go_wp2_with fail
          refine HIH.out.mono ?_
          rintro e w5 ⟨S2, rfl, hd, hf5, hg5⟩
          have HD := hide hd
          have HF5 := hide hf5
          have HG5 := hide (HGr.out.trans hg5)
          clear hd hf5 hg5
          go_wp2_with fail
          go_roundw
          case measure => simp [intOf]; omega
          case rel => exact ⟨j + 1, S2, by omega, by go_num, HLP.out.next HX.out rfl HY.out (by simpa using HD.out), HF5.out, HG5.out⟩
        · obtain rfl : j = m := by omega
          go_wp2_with fail
          go_end0
          refine ⟨S1, rfl, ?_, HFr.out, HG2.out.trans HGr.out⟩
          have := HLP.out
          rw [← HM.out] at this
          exact this.end_ HX.out rfl
/-- A slice of bools comes back: which blocks are reached. -/
def RcP (l : List BD) (w : World) (e : Ending) (w' : World) : Prop :=
  ∃ S A c, (if l.length = 0 ∨ mayL l = false then S = [] else IsR l S) ∧ e = .returned (.slice A S.length c) ∧ Reads w' w'.heap.size 1 A S.length (bC S) ∧ Below w.heap.size w w'
theorem rcp_nil {l : List BD} {w w' : World} (h : l.length = 0 ∨ mayL l = false) (hb : Below w.heap.size w w') : RcP l w (.returned (.slice none 0 0)) w' :=
  ⟨[], none, 0, by rw [if_pos h], rfl, Reads.none_, hb⟩
theorem infB : (Try.prog.info? 4).map (fun i => (i.zero, i.size, i.bytes)) = some (some (.bool false), 1, 1) := by kernel_rfl
theorem made_false (n : Nat) : (madeCells (Value.bool false).cells (n * 1)).toList = bC (List.replicate n false) := by
  rw [Nat.mul_one]
  show (madeCells #[Value.bool false] n).toList = _
  rw [toList_madeCells_one]
  unfold bC
  rw [List.map_replicate]
set_option maxRecDepth 100000 in
set_option maxHeartbeats 4000000 in
theorem reach_any (A : Option Addr) (n c : Nat) (l : List BD) (w : World) (hh : BksAt w w.heap.size A n l) (hm : n < 9223372036854775808) :
    Calls Try.prog 21 #[.slice A n c] w (RcP l w) := by
  have HL := hide hh.len
  have hbox : Below w.heap.size w (w.alloc (.cells #[.slice A n c] 27)) := (Below.refl _ _).alloc (Nat.le_refl _) _
  have HF := hide (⟨hh.below hbox, hbox⟩ : BfF A n l w (w.alloc (.cells #[.slice A n c] 27)))
  have HUP := hide (hh.up hbox (by simp))
  clear hh hbox
  by_cases hn0 : n = 0
  · subst hn0
    have HB := HF.out.below
    have HO := hide HB
    clear HB
    go_enter Try.func21, Try.ntmps21
    go_wp2
    go_ret
    exact rcp_nil (.inl HL.out) HO.out
  · have hd : ((n : Int) == 0) = false := by simp; omega
    go_enter Try.func21, Try.ntmps21
    go_wp2_with fail
    refine (bmay_any A n c l _ HUP.out hm).mono ?_
    rintro e w2 ⟨rfl, hb⟩
    have c1 : w2.cell? ⟨w.heap.size, 0, none⟩ = some (.slice A n c) := by
      rw [hb.cell (p := ⟨w.heap.size, 0, none⟩) (by simp)]
      exact (Blk.new w 27 #[.slice A n c]).cell 0
    have hz2 : w.heap.size < w2.heap.size := by have := hb.size; simp at this; omega
    replace HF := hide (HF.out.step hb)
    clear hb HUP
    cases hmy : mayL l
    · have HM := hide hmy
      clear hmy
      go_wp2
      go_ret
      exact rcp_nil (.inr HM.out) HF.out.below
    · have HM := hide hmy
      have hn64 : n ≤ 64 := by rw [← HL.out]; exact mayL_few hmy
      obtain ⟨iB, hiB, hzB, hsB, hbB⟩ := info_parts infB
      have IB := hide (And.intro hiB (And.intro hzB (And.intro hsB hbB)))
      clear hiB hzB hsB hbB hmy
      go_upto_region 4 with (first
        | (refine wpList_make_full _ rfl (.tmp 14) (.tmp 14) 43 rfl w.heap.size 4 iB _ 1 Try.underlying43 IB.out.1 IB.out.2.1 IB.out.2.2.1 .i64 .i64 (n : Int) (n : Int) n (by rfl) (by rfl) rfl rfl (by rw [IB.out.2.2.2]; omega) (by unfold maxLen; omega) (by omega) ?_
           intro w3 O3 G3
           have HO3 := hide O3
           have HF3 := hide (HF.out.low (((Below.refl w.heap.size w2).grown G3 (by omega) (fun g e => by cases e))))
           have c13 : w3.cell? ⟨w.heap.size, 0, none⟩ = some (.slice A n c) := (World.cell?_of_block (G3.block _ hz2 (fun e => by cases e))).trans c1
           have hz3 : w2.heap.size < w3.heap.size := (RowL.of_own O3).ge w2.heap.size rfl |>.2
           clear O3 G3 c1))
      obtain ⟨gs, hgs⟩ : ∃ v, w2.heap.size = v := ⟨_, rfl⟩
      rw [hgs] at HO3 hz3 hz2 ⊢
      have X4 := Blk.new w3 43 #[.slice (some ⟨gs, 0, none⟩) n n]
      have L4 : Below w3.heap.size w3 (w3.alloc (.cells #[.slice (some ⟨gs, 0, none⟩) n n] 43)) := (Below.refl _ _).alloc (Nat.le_refl _) _
      generalize w3.alloc (.cells #[.slice (some ⟨gs, 0, none⟩) n n] 43) = w4 at X4 L4 ⊢
      have HX4 := hide X4
      have HL4 := hide L4
      clear X4 L4 hgs
      go_upto_region 6 with fail
      have X5 := Blk.new w4 57 #[wkV w.heap.size w3.heap.size w4.heap.size]
      have L5 : Below w4.heap.size w4 (w4.alloc (.cells #[wkV w.heap.size w3.heap.size w4.heap.size] 57)) := (Below.refl _ _).alloc (Nat.le_refl _) _
      generalize w4.alloc (.cells #[wkV w.heap.size w3.heap.size w4.heap.size] 57) = w5 at X5 L5 ⊢
      have hb35 := HL4.out.trans (L5.mono HL4.out.size)
      have hz3' : w3.heap.size < w4.heap.size := HX4.out.lt
      have hz5 : w4.heap.size < w5.heap.size := X5.lt
      have hwk : WkF A n c l w.heap.size w.heap.size w3.heap.size w4.heap.size gs (List.replicate n false) w5 :=
        ⟨HF3.out.blks.below (hb35.mono HF3.out.below.size), (hb35.cell (p := ⟨w.heap.size, 0, none⟩) (show w.heap.size < w3.heap.size by omega)).trans c13, (HX4.out.below L5 HX4.out.lt).cell 0, X5.cell 0,
          by rw [← made_false]; exact (RowL.of_own HO3.out).below hb35, by omega⟩
      have HWK := hide hwk
      have HB5 := hide (HF3.out.below.trans (hb35.mono HF3.out.below.size))
      have c4 : w5.cell? ⟨w4.heap.size, 0, none⟩ = some (wkV w.heap.size w3.heap.size w4.heap.size) := hwk.v4
      clear X5 L5 hb35 hwk c13
      go_wp2_with fail
      refine (walk_any A n c l w.heap.size w.heap.size w3.heap.size w4.heap.size gs HM hm _ 0 (List.replicate n false) _ (Nat.le_refl _) (by omega) HWK.out).mono ?_
      rintro e w6 ⟨S', rfl, hd, hf, hg⟩
      have c3 := hf.v3
      have hlen := hf.len
      have HR := hide (rch_dq (by rw [HL.out]; exact hd))
      have HF6 := hide hf
      have HB6 := hide (HB5.out.grown hg HB5.out.size (fun g e => by injection e with e; omega))
      have HLEN := hide hlen
      clear hd hf hg hlen c4
      go_wp2
      go_ret
      obtain ⟨A6, c6, e6, _, hr6⟩ := HF6.out.row.slice
      injection e6 with e6 _ _
      subst e6
      have HIF : (if l.length = 0 ∨ mayL l = false then S' = [] else IsR l S') := by
        rw [if_neg]
        · exact HR.out
        · rintro (h | h)
          · exact hn0 (HL.out.symm.trans h)
          · rw [HM.out] at h; cases h
      exact ⟨S', some ⟨gs, 0, none⟩, n, HIF, by rw [HLEN.out]; rfl, by rw [HLEN.out]; exact hr6, HB6.out⟩
end Go.Proofs.Ytbdofidapddgaaa
