/-
  What the laws on blocks call of their own: wakes, bools, Great. Conditions: those written in each statement.
-/
import Derived.Test.YtbdofidapddgaaaBn
import Derived.Test.YtbdofidapddgaaaBm
namespace Go.Proofs.Ytbdofidapddgaaa
open Go.RowKit
set_option linter.unusedVariables false
set_option linter.unusedSimpArgs false
theorem pgreat_any (c : Int) (A : Option Addr) (n cap : Nat) (w : World) (hm : n < 9223372036854775808) : Calls Try.prog 9 #[.agg #[.int .i64 c, .slice A n cap]] w fun e w' => e = .returned (.bool (decide (100 < n))) ∧ Below w.heap.size w w' := by
  cases hd : decide ((100 : Int) < (n : Int))
  · have HD := hide (show decide (100 < n) = false by simp at hd; simp; omega)
    go_enter Try.func9, Try.ntmps9
    go_wp2
    go_ret
    exact ⟨ret_bb HD.out.symm, (Below.refl _ _).alloc (Nat.le_refl _) _⟩
  · have HD := hide (show decide (100 < n) = true by simp at hd; simp; omega)
    go_enter Try.func9, Try.ntmps9
    go_wp2
    go_ret
    exact ⟨ret_bb HD.out.symm, (Below.refl _ _).alloc (Nat.le_refl _) _⟩
set_option maxRecDepth 100000 in
set_option maxHeartbeats 2000000 in
theorem bools_any (A A2 : Option Addr) (n c n2 c2 B : Nat) (a b : List Bool) (w : World) (hh : Reads w B 1 A n (bC a)) (hh2 : Reads w B 1 A2 n2 (bC b)) (hm : n < 9223372036854775808) (hm2 : n2 < 9223372036854775808) :
    Calls Try.prog 23 #[.slice A n c, .slice A2 n2 c2] w (DrP (decide (a = b)) w) := by
  have HA := hide hh
  have HB := hide hh2
  have HLA := hide (show a.length = n by have := hh.1; unfold bC at this; simpa using this)
  have HLB := hide (show b.length = n2 by have := hh2.1; unfold bC at this; simpa using this)
  clear hh hh2
  cases hne : ((n : Int) != (n2 : Int))
  · obtain rfl : n = n2 := by simp at hne; omega
    clear hne
    go_enter Try.func23, Try.ntmps23
    go_wp2
    go_loopw [5] (fun i wr => ∃ k : Nat, k ≤ n ∧ i = .int .i64 k ∧ Hid (∀ j : Nat, j < k → a[j]? = b[j]?) ∧ Hid (∃ d, wr = w.drewN d)) (fun i _ => n - (intOf i).toNat)
    case atStart => exact ⟨0, by omega, rfl, fun j h => by omega, ⟨0, rfl⟩⟩
    case round =>
      obtain ⟨k, hk, rfl, HT, HD⟩ := hrel
      by_cases hlt : k < n
      · obtain ⟨ad, x, rfl, _, hx, hcx⟩ := HA.out.at_ hlt
        obtain ⟨ad2, y, rfl, _, hy, hcy⟩ := HB.out.at_ hlt
        obtain ⟨xb, hxb, rfl⟩ : ∃ v, a[k]? = some v ∧ x = .bool v := by
          unfold bC at hx
          rw [List.getElem?_map] at hx
          obtain ⟨v, h1, h2⟩ := Option.map_eq_some_iff.1 hx
          exact ⟨v, h1, h2.symm⟩
        obtain ⟨yb, hyb, rfl⟩ : ∃ v, b[k]? = some v ∧ y = .bool v := by
          unfold bC at hy
          rw [List.getElem?_map] at hy
          obtain ⟨v, h1, h2⟩ := Option.map_eq_some_iff.1 hy
          exact ⟨v, h1, h2.symm⟩
        have HX := hide hxb
        have HY := hide hyb
        have e0 := (dr_cell HD.out (ad.add k)).trans hcx
        have e1 := (dr_cell HD.out (ad2.add k)).trans hcy
        have HDm := fun m => hide (dr_more HD.out m)
        clear hx hy hxb hyb hcx hcy
        cases xb
        · cases yb
          · go_wp2_with fail
            go_quiet (fail)
            go_wp2
            go_roundw
            case measure => simp [intOf]; omega
            case rel =>
              refine ⟨k + 1, by omega, by go_num, fun j hj => ?_, (HDm _).out⟩
              rcases Nat.lt_or_ge j k with h | h
              · exact HT.out j h
              · obtain rfl : j = k := by omega
                rw [HX.out, HY.out]
          · have HQ := hide (show decide (a = b) = false by
              rw [decide_eq_false_iff_not]
              intro e
              have h1 := HX.out
              rw [e, HY.out] at h1
              cases h1)
            go_wp2_with fail
            go_quiet (fail)
            go_wp2
            go_ret
            exact ⟨ret_bb HQ.out.symm, (HDm _).out⟩
        · cases yb
          · have HQ := hide (show decide (a = b) = false by
              rw [decide_eq_false_iff_not]
              intro e
              have h1 := HX.out
              rw [e, HY.out] at h1
              cases h1)
            go_wp2_with fail
            go_quiet (fail)
            go_wp2
            go_ret
            exact ⟨ret_bb HQ.out.symm, (HDm _).out⟩
          · go_wp2_with fail
            go_quiet (fail)
            go_wp2
            go_roundw
            case measure => simp [intOf]; omega
            case rel =>
              refine ⟨k + 1, by omega, by go_num, fun j hj => ?_, (HDm _).out⟩
              rcases Nat.lt_or_ge j k with h | h
              · exact HT.out j h
              · obtain rfl : j = k := by omega
                rw [HX.out, HY.out]
      · obtain rfl : k = n := by omega
        have HQ := hide (show decide (a = b) = true by
          rw [decide_eq_true_iff]
          refine List.ext_getElem? fun j => ?_
          rcases Nat.lt_or_ge j k with h | h
          · exact HT.out j h
          · rw [List.getElem?_eq_none (by rw [HLA.out]; exact h), List.getElem?_eq_none (by rw [HLB.out]; exact h)])
        go_wp2
        go_ret
        exact ⟨ret_bb HQ.out.symm, HD.out⟩
  · have HQ := hide (show decide (a = b) = false by
      rw [decide_eq_false_iff_not]
      intro e
      have h1 := HLA.out
      rw [e, HLB.out] at h1
      simp [h1] at hne)
    go_enter Try.func23, Try.ntmps23
    go_wp2
    go_ret
    exact ⟨ret_bb HQ.out.symm, 0, rfl⟩
def aluI (d n : Int) : ID := ⟨0, 11, 64, 0, false, d, 0, 0, n⟩
theorem build_alu (d n : Int) (w : World) : (Instr.build 33 #[(0, .int .i8 0), (1, .int .i8 11), (2, .int .i8 64), (5, .int .i8 d), (8, .int .i64 n)]).run Try.prog w = .ok (.agg #[.int .i8 0, .int .i8 11, .int .i8 64, .int .i8 0, .bool false, .int .i8 d, .int .i8 0, .int .i64 0, .int .i64 n]) w := run_build w 33 _ _ (by kernel_rfl)
theorem alu_any (d n : Int) (w : World) : Calls Try.prog 27 #[.int .i8 d, .int .i64 n] w fun e w' => e = .returned (.agg #[.int .i8 0, .int .i8 11, .int .i8 64, .int .i8 0, .bool false, .int .i8 d, .int .i8 0, .int .i64 0, .int .i64 n]) ∧ Below w.heap.size w w' := by
  have hbd := fun (w : World) => build_alu d n w
  go_enter Try.func27, Try.ntmps27
  go_wp2
  refine bodyPost_ret (v := .agg #[.int .i8 0, .int .i8 11, .int .i8 64, .int .i8 0, .bool false, .int .i8 d, .int .i8 0, .int .i64 0, .int .i64 n]) (by simp [results, Try.results27, go_sem]) rfl ⟨rfl, (Below.refl _ _).alloc (Nat.le_refl _) _⟩
def wkP : List ID := [aluI 0 0, ⟨3, 0, 0, 0, false, 1, 0, 1, 0⟩, aluI 0 1, ⟨6, 0, 0, 0, false, 0, 0, 0, 0⟩]
def wkB : List BD := [⟨0, 2, [2, 1]⟩, ⟨2, 3, [2]⟩, ⟨3, 4, []⟩]
theorem wk_chk : (chkP 0 wkP).2 = 0 := by decide +kernel
theorem wk_blk : blkR 0 wkP = wkB := by
  unfold blkR
  rw [if_pos wk_chk]
  exact sameL_iff.1 (by decide +kernel)
theorem nx_blk {W : World} {g n : Nat} {l : List Int} (h : Blk W g 3 (l.map (Value.int .i64)).toArray) (hn : l.length = n) (hi : ∀ x ∈ l, I64 x) (hm : n < 1000) : NxAt W W.heap.size (.slice (some ⟨g, 0, none⟩) n n) l := by
  subst hn
  exact ⟨_, _, rfl, Nat.le_refl _, ⟨by simp, fun _ => ⟨_, rfl, h.lt, blk_list h⟩⟩, hi, by omega⟩
theorem wk_at (w : World) : BksAt (((w.alloc (.cells #[.int .i64 2, .int .i64 1] 3)).alloc (.cells #[.int .i64 2] 3)).alloc (.cells #[.int .i64 0, .int .i64 2, .slice (some ⟨w.heap.size, 0, none⟩) 2 2, .int .i64 2, .int .i64 3, .slice (some ⟨w.heap.size + 1, 0, none⟩) 1 1, .int .i64 3, .int .i64 4, .slice none 0 0] 41))
    (((w.alloc (.cells #[.int .i64 2, .int .i64 1] 3)).alloc (.cells #[.int .i64 2] 3)).alloc (.cells #[.int .i64 0, .int .i64 2, .slice (some ⟨w.heap.size, 0, none⟩) 2 2, .int .i64 2, .int .i64 3, .slice (some ⟨w.heap.size + 1, 0, none⟩) 1 1, .int .i64 3, .int .i64 4, .slice none 0 0] 41)).heap.size
    (some ⟨w.heap.size + 1 + 1, 0, none⟩) 3 wkB := by
  have X1 : Blk (((w.alloc (.cells #[.int .i64 2, .int .i64 1] 3)).alloc (.cells #[.int .i64 2] 3)).alloc (.cells #[.int .i64 0, .int .i64 2, .slice (some ⟨w.heap.size, 0, none⟩) 2 2, .int .i64 2, .int .i64 3, .slice (some ⟨w.heap.size + 1, 0, none⟩) 1 1, .int .i64 3, .int .i64 4, .slice none 0 0] 41)) w.heap.size 3 #[.int .i64 2, .int .i64 1] := ((Blk.new w _ _).alloc _).alloc _
  have X2 := ((Blk.new (w.alloc (.cells #[.int .i64 2, .int .i64 1] 3)) 3 #[.int .i64 2]).alloc (.cells #[.int .i64 0, .int .i64 2, .slice (some ⟨w.heap.size, 0, none⟩) 2 2, .int .i64 2, .int .i64 3, .slice (some ⟨w.heap.size + 1, 0, none⟩) 1 1, .int .i64 3, .int .i64 4, .slice none 0 0] 41))
  have X3 := Blk.new ((w.alloc (.cells #[.int .i64 2, .int .i64 1] 3)).alloc (.cells #[.int .i64 2] 3)) 41 #[.int .i64 0, .int .i64 2, .slice (some ⟨w.heap.size, 0, none⟩) 2 2, .int .i64 2, .int .i64 3, .slice (some ⟨w.heap.size + 1, 0, none⟩) 1 1, .int .i64 3, .int .i64 4, .slice none 0 0]
  rw [show (w.alloc (.cells #[.int .i64 2, .int .i64 1] 3)).heap.size = w.heap.size + 1 by simp] at X2
  rw [show ((w.alloc (.cells #[.int .i64 2, .int .i64 1] 3)).alloc (.cells #[.int .i64 2] 3)).heap.size = w.heap.size + 1 + 1 by simp] at X3
  generalize ((w.alloc (.cells #[.int .i64 2, .int .i64 1] 3)).alloc (.cells #[.int .i64 2] 3)).alloc (.cells #[.int .i64 0, .int .i64 2, .slice (some ⟨w.heap.size, 0, none⟩) 2 2, .int .i64 2, .int .i64 3, .slice (some ⟨w.heap.size + 1, 0, none⟩) 1 1, .int .i64 3, .int .i64 4, .slice none 0 0] 41) = W at X1 X2 X3 ⊢
  refine ⟨[(⟨0, 2, [2, 1]⟩, .slice (some ⟨w.heap.size, 0, none⟩) 2 2), (⟨2, 3, [2]⟩, .slice (some ⟨w.heap.size + 1, 0, none⟩) 1 1), (⟨3, 4, []⟩, .slice none 0 0)], rfl, rfl, ⟨rfl, fun _ => ⟨_, rfl, X3.lt, blk_list (l := [.int .i64 0, .int .i64 2, .slice (some ⟨w.heap.size, 0, none⟩) 2 2, .int .i64 2, .int .i64 3, .slice (some ⟨w.heap.size + 1, 0, none⟩) 1 1, .int .i64 3, .int .i64 4, .slice none 0 0]) X3⟩⟩, ?_⟩
  intro p hp
  simp at hp
  rcases hp with rfl | rfl | rfl
  · exact ⟨by unfold BD.wf I64; dsimp only; omega, nx_blk (l := [2, 1]) X1 rfl (by intro x hx; simp at hx; unfold I64; omega) (by omega)⟩
  · exact ⟨by unfold BD.wf I64; dsimp only; omega, nx_blk (l := [2]) X2 rfl (by intro x hx; simp at hx; unfold I64; omega) (by omega)⟩
  · exact ⟨by unfold BD.wf I64; dsimp only; omega, NxAt.nil⟩
theorem wkP_wf : ∀ x ∈ wkP, x.wf := by
  intro x hx
  unfold wkP aluI at hx
  simp at hx
  rcases hx with rfl | rfl | rfl | rfl <;> (unfold ID.wf I8 I64; dsimp only; omega)
theorem build_j (w : World) : (Instr.build 33 #[(0, .int .i8 3), (1, .int .i8 0), (5, .int .i8 1), (7, .int .i64 1)]).run Try.prog w = .ok (.agg #[.int .i8 3, .int .i8 0, .int .i8 0, .int .i8 0, .bool false, .int .i8 1, .int .i8 0, .int .i64 1, .int .i64 0]) w := run_build w 33 _ _ (by kernel_rfl)
theorem build_x (w : World) : (Instr.build 33 #[(0, .int .i8 6)]).run Try.prog w = .ok (.agg #[.int .i8 6, .int .i8 0, .int .i8 0, .int .i8 0, .bool false, .int .i8 0, .int .i8 0, .int .i64 0, .int .i64 0]) w := run_build w 33 _ _ (by kernel_rfl)
theorem build_pg (A : Option Addr) (n c : Nat) (w : World) : (Instr.build 24 #[(1, .slice A n c)]).run Try.prog w = .ok (.agg #[.int .i64 0, .slice A n c]) w := run_build w 24 _ _ (by kernel_rfl)
theorem build_b3 (a b : Int) (A : Option Addr) (n c : Nat) (w : World) : (Instr.build 41 #[(0, .int .i64 a), (1, .int .i64 b), (2, .slice A n c)]).run Try.prog w = .ok (.agg #[.int .i64 a, .int .i64 b, .slice A n c]) w := run_build w 41 _ _ (by kernel_rfl)
theorem build_b2 (a b : Int) (w : World) : (Instr.build 41 #[(0, .int .i64 a), (1, .int .i64 b)]).run Try.prog w = .ok (.agg #[.int .i64 a, .int .i64 b, .slice none 0 0]) w := run_build w 41 _ _ (by kernel_rfl)
set_option maxRecDepth 100000 in
set_option maxHeartbeats 4000000 in
theorem wakes_any (w : World) : Calls Try.prog 10 #[] w fun e w' => e = .returned (.bool true) ∧ Below w.heap.size w w' := by
  have q1 := fun (w : World) => build_j w
  have q2 := fun (w : World) => build_x w
  have q3 := fun (A : Option Addr) (n c : Nat) (w : World) => build_pg A n c w
  go_enter Try.func10, Try.ntmps10
  go_wp2_with fail
  refine (alu_any 0 0 _).mono ?_
  rintro e w1 ⟨rfl, hb1⟩
  have HB1 := hide hb1
  clear hb1
  go_wp2_with fail
  refine (alu_any 0 1 _).mono ?_
  rintro e w2 ⟨rfl, hb2⟩
  have HB2 := hide (HB1.out.trans (hb2.mono HB1.out.size))
  clear hb2 HB1
  go_wp2_with fail
  have hat : InsAt (w2.alloc (.cells (wkP.flatMap ID.cells).toArray 33)) (w2.alloc (.cells (wkP.flatMap ID.cells).toArray 33)).heap.size (some ⟨w2.heap.size, 0, none⟩) 4 wkP :=
    ⟨rfl, wkP_wf, rfl, fun _ => ⟨_, rfl, by simp, fun j u hu => blk_list (l := wkP.flatMap ID.cells) (Blk.new w2 33 _) j u hu⟩⟩
  refine (run_any 0 (some ⟨w2.heap.size, 0, none⟩) 4 4 wkP _ hat (by omega) (by omega)).mono ?_
  rintro e w3 ⟨A3, c3, rfl, hc3, hb3, hbel⟩
  rw [wk_blk] at hc3 hb3 ⊢
  rw [wk_chk]
  have HB3 := hide (HB2.out.trans (((Below.refl w2.heap.size w2).alloc (Nat.le_refl _) (.cells (wkP.flatMap ID.cells).toArray 33)).trans (hbel.mono (by simp)) |>.mono HB2.out.size))
  have HK3 := hide hb3
  have q4 := fun (a b : Int) (A : Option Addr) (n c : Nat) (w : World) => build_b3 a b A n c w
  have q5 := fun (a b : Int) (w : World) => build_b2 a b w
  clear hat hb3 hbel HB2 q1 q2 q3
  go_wp2_with fail
  have hb6 : Below w3.heap.size w3 (((w3.alloc (.cells #[.int .i64 2, .int .i64 1] 3)).alloc (.cells #[.int .i64 2] 3)).alloc (.cells #[.int .i64 0, .int .i64 2, .slice (some ⟨w3.heap.size, 0, none⟩) 2 2, .int .i64 2, .int .i64 3, .slice (some ⟨w3.heap.size + 1, 0, none⟩) 1 1, .int .i64 3, .int .i64 4, .slice none 0 0] 41)) := (((Below.refl _ _).alloc (Nat.le_refl _) _).alloc (by simp) _).alloc (by simp; omega) _
  refine (dsame_any A3 _ wkB.length c3 3 3 wkB wkB _ (HK3.out.up hb6 hb6.size) (wk_at w3) (by decide) (by omega)).mono ?_
  rintro e w7 ⟨rfl, hb7⟩
  rw [sameL_iff.2 rfl]
  have HB7 := hide (HB3.out.trans ((hb6.trans (hb7.mono hb6.size)).mono HB3.out.size))
  clear hb6 hb7 HB3 HK3
  go_wp2
  go_ret
  exact ⟨rfl, HB7.out⟩
end Go.Proofs.Ytbdofidapddgaaa
