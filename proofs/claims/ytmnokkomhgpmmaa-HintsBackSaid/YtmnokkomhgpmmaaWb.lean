/-
  hints.Check: which hints may be. Conditions: those written in each statement.
-/
import Derived.Test.YtmnokkomhgpmmaaWa
import Derived.Test.YtmnokkomhgpmmaaKy
namespace Go.Proofs.Ytmnokkomhgpmmaa
open Go.RowKit
set_option linter.unusedVariables false
set_option linter.unusedSimpArgs false
theorem ret_i {k : IntKind} {a b : Int} (h : a = b) : Ending.returned (.int k a) = .returned (.int k b) := by rw [h]
theorem infH : (Try.prog.info? 34).map (fun i => (i.zero, i.size, i.bytes)) = some (some (.agg #[.int .i64 0, .int .i8 0, .int .i8 0, .int .i8 0, .int .i8 0, .int .i8 0, .int .i8 0, .int .i8 0, .int .i8 0, .int .i8 0, .int .i8 0, .int .i8 0, .int .i8 0, .int .i8 0, .int .i8 0, .int .i8 0, .int .i8 0, .int .i8 0, .int .i8 0, .int .i8 0, .int .i8 0, .int .i8 0, .int .i8 0]), 23, 32) := by kernel_rfl
theorem infP : (Try.prog.info? 31).map (fun i => (i.zero, i.size, i.bytes)) = some (some (.agg #[.int .i8 0, .int .i8 0]), 2, 2) := by kernel_rfl
theorem infA : (Try.prog.info? 32).map (fun i => (i.zero, i.size, i.bytes)) = some (some (.agg #[.int .i8 0, .int .i8 0, .int .i8 0, .int .i8 0, .int .i8 0, .int .i8 0, .int .i8 0, .int .i8 0, .int .i8 0, .int .i8 0, .int .i8 0, .int .i8 0, .int .i8 0, .int .i8 0, .int .i8 0, .int .i8 0, .int .i8 0, .int .i8 0, .int .i8 0, .int .i8 0, .int .i8 0, .int .i8 0]), 22, 22) := by kernel_rfl
theorem all_one {cs : List Value} (h : ∀ v ∈ cs, v.oneCell' = true) : cs.toArray.all (·.oneCell') = true :=
  Array.all_eq_true_iff_forall_mem.2 (fun v hv => h v (by simpa using hv))
theorem one2 (k : IntKind) (a b : Int) : (#[Value.int k a, .int k b]).all (·.oneCell') = true := all_one (cs := [.int k a, .int k b]) (by intro v hv; simp at hv; rcases hv with rfl | rfl <;> rfl)
theorem HD.one (h : HD) : h.cells.toArray.all (·.oneCell') = true := by
  refine all_one fun v hv => ?_
  unfold HD.cells plCells at hv
  simp at hv
  rcases hv with rfl | ⟨a, b, _, rfl | rfl⟩ <;> rfl
def CRel (s : Int) (hs : List HD) (W : World) (A : Option Addr) (n : Nat) (i : Value) (wr : World) : Prop :=
  ∃ k : Nat, k ≤ n ∧ i = .int .i64 k ∧ (∀ j x, j < k → hs[j]? = some x → hOk s x = true) ∧ HintsAt wr W.heap.size A n hs ∧ wr.cell? ⟨W.heap.size, 0, none⟩ = some (.int .i64 s) ∧ Below W.heap.size W wr ∧ W.heap.size < wr.heap.size
def IRel (s : Int) (l : List (Int × Int)) (hs : List HD) (W : World) (A : Option Addr) (n b2 : Nat) (i : Value) (wr : World) : Prop :=
  ∃ j : Nat, j ≤ 11 ∧ i = .int .i64 j ∧ (∀ q, q < j → pOk s l q = true) ∧ MapIs Try.prog 31 placeV (fun p => I8 p.1 ∧ I8 p.2) wr b2 j (tkF l j) ∧ HintsAt wr W.heap.size A n hs ∧ wr.cell? ⟨W.heap.size, 0, none⟩ = some (.int .i64 s) ∧ Below W.heap.size W wr
theorem kept_map {B b : Nat} {a w w' : World} (h : Below B a w) (hg : w.grownBy w' (some b)) (hs : B ≤ w.heap.size) (hb : B ≤ b) : Below B a w' :=
  h.grown hg hs (fun g e => by injection e with e; omega)
theorem chk_yes {s : Int} {hs : List HD} {n : Nat} (hl : hs.length = n) (h0 : 0 ≤ s) (h1 : s ≤ 88) (h8 : s % 8 = 0) (hn : 0 < n) (hn1 : n ≤ 65) (h : ∀ j x, j < n → hs[j]? = some x → hOk s x = true) : chkB s hs = true := by
  unfold chkB
  simp only [hl, h0, h1, h8, hn, hn1, decide_true, Bool.true_and, beq_self_eq_true]
  rw [List.all_eq_true]
  intro x hx
  obtain ⟨j, hj, rfl⟩ := List.getElem_of_mem hx
  exact h j _ (by omega) (List.getElem?_eq_getElem hj)
theorem chk_head {s : Int} {hs : List HD} (h : ¬ (0 ≤ s ∧ s ≤ 88 ∧ s % 8 = 0 ∧ 0 < hs.length ∧ hs.length ≤ 65)) : chkB s hs = false := by
  cases hc : chkB s hs with
  | false => rfl
  | true =>
    unfold chkB at hc
    simp only [Bool.and_eq_true, decide_eq_true_eq, beq_iff_eq] at hc
    omega
theorem zeroB (w : World) : (zeroValue 4).run Try.prog w = .ok (.bool false) w := by kernel_rfl
set_option maxRecDepth 100000 in
set_option maxHeartbeats 4000000 in
theorem check_any (s : Int) (A : Option Addr) (n c : Nat) (hs : List HD) (w : World) (hh : HintsAt w w.heap.size A n hs) (hc : n ≤ c) (hm : n < 9223372036854775808) :
    Calls Try.prog 10 #[.agg #[.int .i64 s, .slice A n c]] w fun e w' => e = .returned (.int .i64 (errC (chkB s hs))) ∧ Below w.heap.size w w' := by
  have hl := hide hh.1
  obtain ⟨iH, hiH, hzH, hsH, _⟩ := info_parts infH
  have IH := hide (And.intro hiH (And.intro hzH hsH))
  clear hiH hzH hsH
  obtain ⟨iP, hiP, hzP, hsP, _⟩ := info_parts infP
  have IP := hide (And.intro hiP (And.intro hzP hsP))
  clear hiP hzP hsP
  by_cases h0 : 0 ≤ s ∧ s ≤ 88
  · have e7 := and7 s h0.1 h0.2
    obtain ⟨h0, h1⟩ := h0
    by_cases h8 : s % 8 = 0
    · have b7 : (bits .and .i64 s 7 != 0) = false := by rw [e7, h8]; rfl
      clear e7
      have H8 := hide h8
      clear h8
      by_cases hn : 0 < n ∧ n ≤ 65
      · obtain ⟨hn0, hn1⟩ := hn
        have bn : ((n : Int) == 0) = false := by simp; omega
        have HH := hide hh
        clear hh
        go_enter Try.func10, Try.ntmps10
        go_wp2
        go_loopw [37] (fun i wr => CRel s hs w A n i wr) (fun i _ => n - (intOf i).toNat)
        case atStart => exact ⟨0, by omega, rfl, by omega, HH.out.alloc (Nat.le_refl _) _, by simp, (Below.refl _ _).alloc (Nat.le_refl _) _, by simp⟩
        case round =>
          obtain ⟨k, hk, rfl, hok, hat, hc0, hbel, hsz⟩ := hrel
          have HB := hide hbel
          have HOK := hide hok
          clear hbel hok
          by_cases hlt : k < n
          · obtain ⟨ad, x, rfl, hab, hx, hxw, hcell⟩ := hat.at_ hlt
            have HX := hide hx
            have HAT := hide hat
            have HC := hide hcell
            have HW := hide hxw
            clear hx hat hcell hxw
            by_cases ha : 0 ≤ x.at_ ∧ x.at_ < 16384
            · obtain ⟨ha0, ha1⟩ := ha
              go_wp2_with (first
                | (refine wpList_load_at rfl 34 (.tmp 39) rfl (ad.add (k * 23)) rfl x.cells _ HC.out Try.underlying34 rfl (by rw [HD.cells_len HW.out, IH.out.1]; simp [IH.out.2.2]) ?_)
                | (refine wpList_new rfl rfl 34 (.tmp 4) (.tmp 40) rfl rfl iH _ (.agg x.cells.toArray) x.cells.toArray IH.out.1 IH.out.2.1 (by rw [IH.out.2.2]; rfl) rfl (by rw [IH.out.2.2]; simpa using HD.cells_len HW.out) (HD.one x) (by rfl) (by rfl) ?_
                   intro w1 g1 G1 X1 L1
                   have q1 : w1.cell? ⟨g1, 0, none⟩ = some (.int .i64 x.at_) := by simpa [HD.cells] using X1.cell 0
                   have hc1 : w1.cell? ⟨w.heap.size, 0, none⟩ = some (.int .i64 s) := (L1.cell (p := ⟨w.heap.size, 0, none⟩) hsz).trans hc0
                   have HAT1 := hide (HAT.out.below (L1.mono (Nat.le_of_lt hsz)))
                   have HB1 := hide (HB.out.trans (L1.mono (Nat.le_of_lt hsz)))
                   have HX1 := hide X1
                   have HL1 := hide L1
                   clear X1 L1)
                | (refine wpList_makeMap placeV (fun p => I8 p.1 ∧ I8 p.2) 31 rfl 51 rfl ?_
                   intro w2 b2 G2 M2 L2
                   have hs1 := HL1.out.size
                   have hc2 : w2.cell? ⟨w.heap.size, 0, none⟩ = some (.int .i64 s) := (L2.cell (p := ⟨w.heap.size, 0, none⟩) (show w.heap.size < w1.heap.size by omega)).trans hc1
                   have HAT2 := hide (HAT1.out.below (L2.mono (show w.heap.size ≤ w1.heap.size by omega)))
                   have HB2 := hide (HB1.out.trans (L2.mono (show w.heap.size ≤ w1.heap.size by omega)))
                   have hp2 := hide (blk_tail (HX1.out.below L2 HX1.out.lt))
                   have HM2 := hide M2
                   clear q1 hc1 HAT1 HB1 M2 L2)
                | (refine wpList_load_at rfl 32 (.tmp 50) rfl ⟨g1, 1, none⟩ rfl (plCells x.pl) _ hp2.out Try.underlying32 rfl (by rw [plCells_len, HW.out.2.1]; kernel_rfl) ?_))
              obtain ⟨wo, rfl⟩ : ∃ wo : World, wo = wr := ⟨_, rfl⟩
              go_loopw [52] (fun i wq => IRel s x.pl hs w (some ad) n b2 i wq) (fun i _ => 11 - (intOf i).toNat)
              case atStart => exact ⟨0, by omega, rfl, by omega, HM2.out.congr (by intro q; simp [tkF]), HAT2.out, hc2, HB2.out⟩
              case round =>
                obtain ⟨j, hj, rfl, hpo, hmap, hatq, hcq, hbq⟩ := hrel
                have HPO := hide hpo
                clear hpo hc2 HAT2 HB2 hp2 HM2 hc0 HAT HC HB
                have HMq := hide hmap
                have HATq := hide hatq
                have HBq := hide hbq
                clear hmap hatq hbq
                have hb0 : w.heap.size < b2 := by omega
                have szq := HBq.out.size
                have ltb := HMq.out.lt
                by_cases hlj : j < 11
                · have hxl : j < x.pl.length := by rw [HW.out.2.1]; exact hlj
                  obtain ⟨pp, hpp⟩ : ∃ p, plD x.pl j = p := ⟨_, rfl⟩
                  have hV := HW.out.2.2 pp (List.mem_of_getElem? (plD_at hxl hpp))
                  have HPP := hide hpp
                  clear hpp
                  obtain ⟨pa, pb⟩ := pp
                  have HV := hide hV
                  clear hV
                  have hW0 : w.heap.size < wr.heap.size := by omega
                  go_wp2_with (first
                    | (refine wpList_index_agg rfl 32 31 (.tmp 51) (.tmp 52) rfl 11 2 _ .i64 j _ Try.underlying32 Try.underlying31 rfl (by kernel_rfl) hlj rfl rfl _ (plCells_at x.pl j (pa, pb) (plD_at hxl HPP.out)) ?_)
                    | (refine wpList_new rfl rfl 31 (.tmp 7) (.tmp 54) rfl rfl iP _ (.agg #[.int .i8 pa, .int .i8 pb]) #[.int .i8 pa, .int .i8 pb] IP.out.1 IP.out.2.1 (by rw [IP.out.2.2]; first | done | rfl) rfl (by rw [IP.out.2.2]; first | done | rfl) (one2 _ _ _) (by rfl) (by rfl) ?_
                       intro w3 g3 G3 X3 L3
                       have c30 := X3.cell 0
                       have c31 := X3.cell 1
                       simp at c30 c31
                       have hc3 : w3.cell? ⟨w.heap.size, 0, none⟩ = some (.int .i64 s) := (L3.cell (p := ⟨w.heap.size, 0, none⟩) hW0).trans hcq
                       have HX3 := hide X3
                       have HL3 := hide L3
                       clear X3 L3)
                    | (go_at_call 23
                       refine (place_any pa pb s _ HV.out.2).mono ?_
                       rintro e w4 ⟨rfl, hb4⟩
                       have HM4 := hide ((HMq.out.below HL3.out ltb).below hb4 (Nat.lt_of_lt_of_le ltb HL3.out.size))
                       have hX4 := HX3.out.below hb4 HX3.out.lt
                       have c40 := hX4.cell 0
                       have c41 := hX4.cell 1
                       simp at c40 c41
                       have HX4 := hide hX4
                       have HBB := hide (HL3.out.trans (hb4.mono HL3.out.size))
                       clear hb4 hX4 c30 c31 hc3
                       cases hplace : placeB pa pb s)
                    | (at_lookup
                       refine wpList_look1w (by rfl) (.tmp 61) (.tmp 62) 51 rfl 4 placeK Try.underlying51 (.bool false) (zeroB _) HM4.out (pa, pb) HV.out (by rfl) (by rfl) _ tk_look ?_
                       dsimp only
                       cases htk : (pa != 0 && (x.pl.take j).contains (pa, pb)))
                    | (at_mapUpdate
                       refine wpList_put rfl (.tmp 65) (.tmp 66) (.tmp 69) 51 rfl 4 placeK Try.underlying51 HM4.out (by unfold maxLen; omega) (pa, pb) HV.out (.bool (pa != 0)) (by rfl) (by rfl) (by rfl) ?_
                       intro w5 M5 L5))
                  all_goals first
                    | (go_ret
                       exact ⟨ret_i (by rw [chk_no_h HX.out (hok_no hlj (by unfold pOk; rw [HPP.out]; first | (simp [hplace]; done) | (rw [htk]; simp; done)))]; rfl), HBq.out.trans (HBB.out.mono szq)⟩)
                    | (go_roundw)
                  · next =>
                      have hok1 : pOk s x.pl j = true := by unfold pOk; rw [HPP.out, htk]; simp [hplace]
                      have s4 := HBB.out.size
                      have hB4 : Below w.heap.size w w4 := HBq.out.trans (HBB.out.mono szq)
                      refine ⟨j + 1, by omega, by go_num, fun q hq => ?_, M5.congr (tk_put hxl HPP.out), ?_, ?_, kept_map hB4 L5 hB4.size (by omega)⟩
                      · rcases Nat.lt_or_ge q j with h | h
                        · exact HPO.out q h
                        · rw [show q = j by omega]; exact hok1
                      · exact ⟨HATq.out.1, HATq.out.2.1, (HATq.out.below (HBB.out.mono szq)).2.2.grown L5 hB4.size (fun g e => by injection e with e; omega)⟩
                      · rw [World.cell?_of_block (L5.block w.heap.size (by omega) (fun e => by injection e with e; omega))]
                        exact (HBB.out.cell (p := ⟨w.heap.size, 0, none⟩) hW0).trans hcq
                  · simp [intOf]; omega
                · obtain rfl : j = 11 := by omega
                  clear hj hlj
                  go_wp2
                  go_roundw
                  case measure => simp [intOf]; omega
                  case rel =>
                    refine ⟨k + 1, by omega, by go_num, fun q y hq hy => ?_, HATq.out, hcq, HBq.out, by omega⟩
                    rcases Nat.lt_or_ge q k with h | h
                    · exact HOK.out q y h hy
                    · obtain rfl : q = k := by omega
                      have := HX.out
                      rw [hy] at this
                      obtain rfl := Option.some.inj this
                      exact hok_yes ha0 ha1 HPO.out
            · have HA := hide ha
              have hbad : chkB s hs = false := chk_no_h HX.out (by unfold hOk; rw [Bool.and_eq_false_iff]; left; simp; omega)
              have HBD := hide hbad
              clear ha hbad
              by_cases ha0 : 0 ≤ x.at_
              · have ha1 : ¬ x.at_ < 16384 := fun h => HA.out ⟨ha0, h⟩
                go_wp2_with (first
                  | (refine wpList_load_at rfl 34 (.tmp 39) rfl (ad.add (k * 23)) rfl x.cells _ HC.out Try.underlying34 rfl (by rw [HD.cells_len HW.out, IH.out.1]; simp [IH.out.2.2]) ?_)
                  | (refine wpList_new rfl rfl 34 (.tmp 4) (.tmp 40) rfl rfl iH _ (.agg x.cells.toArray) x.cells.toArray IH.out.1 IH.out.2.1 (by rw [IH.out.2.2]; rfl) rfl (by rw [IH.out.2.2]; simpa using HD.cells_len HW.out) (HD.one x) (by rfl) (by rfl) ?_
                     intro w1 g1 G1 X1 L1
                     have q1 : w1.cell? ⟨g1, 0, none⟩ = some (.int .i64 x.at_) := by simpa [HD.cells] using X1.cell 0
                     have HB1 := hide (HB.out.trans (L1.mono (Nat.le_of_lt hsz)))
                     clear X1 L1))
                go_ret
                exact ⟨ret_i (by rw [HBD.out]; rfl), HB1.out⟩
              · go_wp2_with (first
                  | (refine wpList_load_at rfl 34 (.tmp 39) rfl (ad.add (k * 23)) rfl x.cells _ HC.out Try.underlying34 rfl (by rw [HD.cells_len HW.out, IH.out.1]; simp [IH.out.2.2]) ?_)
                  | (refine wpList_new rfl rfl 34 (.tmp 4) (.tmp 40) rfl rfl iH _ (.agg x.cells.toArray) x.cells.toArray IH.out.1 IH.out.2.1 (by rw [IH.out.2.2]; rfl) rfl (by rw [IH.out.2.2]; simpa using HD.cells_len HW.out) (HD.one x) (by rfl) (by rfl) ?_
                     intro w1 g1 G1 X1 L1
                     have q1 : w1.cell? ⟨g1, 0, none⟩ = some (.int .i64 x.at_) := by simpa [HD.cells] using X1.cell 0
                     have HB1 := hide (HB.out.trans (L1.mono (Nat.le_of_lt hsz)))
                     clear X1 L1))
                go_ret
                exact ⟨ret_i (by rw [HBD.out]; rfl), HB1.out⟩
          · obtain rfl : k = n := by omega
            clear hk hlt
            go_wp2
            go_ret
            exact ⟨ret_i (by rw [chk_yes hl.out h0 h1 H8.out hn0 hn1 HOK.out]; rfl), HB.out⟩
      · have HBD := hide (chk_head (s := s) (hs := hs) (fun h => hn (by have := hl.out; omega)))
        clear hh
        by_cases hn0 : 0 < n
        · have hn1 : ¬ n ≤ 65 := fun h => hn ⟨hn0, h⟩
          have bn : ((n : Int) == 0) = false := by simp; omega
          go_enter Try.func10, Try.ntmps10
          go_wp2
          go_ret
          exact ⟨ret_i (by rw [HBD.out]; rfl), (Below.refl _ _).alloc (Nat.le_refl _) _⟩
        · obtain rfl : n = 0 := by omega
          clear hn0 hn
          go_enter Try.func10, Try.ntmps10
          go_wp2
          go_ret
          exact ⟨ret_i (by rw [HBD.out]; rfl), (Below.refl _ _).alloc (Nat.le_refl _) _⟩
    · have HBD := hide (chk_head (s := s) (hs := hs) (fun h => h8 h.2.2.1))
      have b7 : (bits .and .i64 s 7 != 0) = true := by rw [e7]; simpa using h8
      clear hh e7 h8
      go_enter Try.func10, Try.ntmps10
      go_wp2
      go_ret
      exact ⟨ret_i (by rw [HBD.out]; rfl), (Below.refl _ _).alloc (Nat.le_refl _) _⟩
  · have HBD := hide (chk_head (s := s) (hs := hs) (fun h => h0 ⟨h.1, h.2.1⟩))
    clear hh
    by_cases h1 : 0 ≤ s
    · have h2 : ¬ s ≤ 88 := fun h => h0 ⟨h1, h⟩
      go_enter Try.func10, Try.ntmps10
      go_wp2
      go_ret
      exact ⟨ret_i (by rw [HBD.out]; rfl), (Below.refl _ _).alloc (Nat.le_refl _) _⟩
    · go_enter Try.func10, Try.ntmps10
      go_wp2
      go_ret
      exact ⟨ret_i (by rw [HBD.out]; rfl), (Below.refl _ _).alloc (Nat.le_refl _) _⟩
end Go.Proofs.Ytmnokkomhgpmmaa
