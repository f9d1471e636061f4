/-
  The walk of MovesBack: it answers true. Conditions: those written in each statement.
-/
import Derived.Test.YtdnibhcpbdjhlaaBk
import Derived.Test.YtdnibhcpbdjhlaaLc
namespace Go.Proofs.Ytdnibhcpbdjhlaa
open Go.RowKit
set_option linter.unusedVariables false
set_option linter.unusedSimpArgs false
theorem cyc_ex {l : List Mv} (hg : ∀ x ∈ l, regB x.1 = true ∧ regB x.2 = true) : ∃ c, CycN l c := by
  have h : ∀ k : Nat, ∃ c, CntP l k c := by
    intro k
    induction k with
    | zero => exact ⟨0, CntP.start hg⟩
    | succ k ih =>
      obtain ⟨c, hc⟩ := ih
      by_cases hi : IsL l k
      · exact ⟨_, hc.yes hi⟩
      · exact ⟨_, hc.no hi⟩
  obtain ⟨c, hc⟩ := h 16
  exact ⟨c, CntP.done hg hc⟩
/-- The law's moves, the values its registers had (its first box), in a world that may write what is behind them. -/
structure BF (A : Option Addr) (n : Nat) (l : List Mv) (R : List Int) (w W : World) : Prop where
  below : Below w.heap.size w W
  regs : Blk W w.heap.size 25 (uC R).toArray
  mvs : MvsAt W w.heap.size A n l
section
variable {A : Option Addr} {n : Nat} {l : List Mv} {R : List Int} {w W V : World}
theorem BF.step (h : BF A n l R w W) (hb : Below W.heap.size W V) : BF A n l R w V :=
  ⟨h.below.trans (hb.mono h.below.size), h.regs.below hb h.regs.lt, h.mvs.below (hb.mono h.below.size)⟩
theorem BF.grown (h : BF A n l R w W) {row : Option Nat} (hg : W.grownBy V row) (hr : ∀ g, row = some g → w.heap.size + 1 ≤ g) : BF A n l R w V :=
  ⟨h.below.grown hg h.below.size (fun g e => by have := hr g e; omega), h.regs.grown hg (fun e => by have := hr _ e.symm; omega), h.mvs.grown hg h.below.size (fun g e => by have := hr g e; omega)⟩
theorem BF.at_ (h : BF A n l R w W) : MvsAt W W.heap.size A n l := ⟨h.mvs.1, h.mvs.2.1, h.mvs.2.2.more h.below.size⟩
theorem BF.new (hh : MvsAt w w.heap.size A n l) : BF A n l R w (w.alloc (.cells (uC R).toArray 25)) :=
  ⟨(Below.refl _ _).alloc (Nat.le_refl _) _, Blk.new w _ _, hh.alloc (Nat.le_refl _) _⟩
end
theorem blk_set {W : World} {g r : Nat} {X : List Int} {v : Int} (h : Blk W g 25 (uC X).toArray) : Blk (W.setCell ⟨g, r, none⟩ (.int .u64 v)) g 25 (uC (X.set r v)).toArray := by
  have := h.set_ r (.int .u64 v)
  have e : (uC X).toArray.setIfInBounds r (.int .u64 v) = (uC (X.set r v)).toArray := by
    unfold uC
    rw [List.setIfInBounds_toArray, List.map_set]
  rw [e] at this
  exact this
theorem reads_two (w : World) (t : TypeId) (cs : List Value) {size : Nat} (h : cs.length = size := by rfl) : Reads (w.alloc (.cells cs.toArray t)) (w.alloc (.cells cs.toArray t)).heap.size size (some ⟨w.heap.size, 0, none⟩) 1 cs :=
  ⟨by omega, fun _ => ⟨_, rfl, (Blk.new w t _).lt, blk_list (Blk.new w t _)⟩⟩
def EndsP (l : List Mv) (x1 : Int) (j : Nat) : Prop := ∃ q y, q < j ∧ l[q]? = some y ∧ y.1 = x1
theorem ends_next {l : List Mv} {x1 : Int} {j : Nat} {y : Mv} (hy : l[j]? = some y) : EndsP l x1 (j + 1) ↔ EndsP l x1 j ∨ y.1 = x1 := by
  constructor
  · rintro ⟨q, z, hq, hz, e⟩
    by_cases h : q = j
    · subst h
      rw [hy] at hz
      obtain rfl := Option.some.inj hz
      exact .inr e
    · exact .inl ⟨q, z, by omega, hz, e⟩
  · rintro (⟨q, z, hq, hz, e⟩ | e)
    · exact ⟨q, z, by omega, hz, e⟩
    · exact ⟨j, y, by omega, hy, e⟩
set_option maxRecDepth 100000 in
set_option maxHeartbeats 16000000 in
theorem back_walk (A : Option Addr) (n c : Nat) (l : List Mv) (s : Int) (R : List Int) (w : World) (hs : I8 s) (hR : R.length = 16) (hU : ∀ x ∈ R, U64 x) (hh : MvsAt w w.heap.size A n l) (hm : n < 9223372036854775808) :
    Calls Try.prog 5 #[.slice A n c, .int .i8 s, .agg (uC R).toArray] w fun e w' => e = .returned (.bool true) ∧ Below w.heap.size w w' := by
  have HF := hide (BF.new (R := R) hh)
  have HL := hide hh.1
  have HWL := hide hh.2.1
  have HR := hide hR
  have HS := hide hs
  have HU := hide hU
  clear hh hR hs hU
  go_enter Try.func5, Try.ntmps5
  go_wp2_with fail
  refine (great_any A n c _ hm).mono ?_
  rintro e w' ⟨rfl, rfl⟩
  cases hg : decide (100 < n)
  · have hn100 : n ≤ 100 := by simpa using hg
    clear hg
    by_cases h16 : 16 < n
    · have hd : decide ((16 : Int) < (n : Int)) = true := by simp; omega
      go_wp2_with fail
      refine (wakes_any _).mono ?_
      rintro e w4 ⟨rfl, hb⟩
      replace HF := hide (HF.out.step hb)
      clear hb
      go_wp2
      go_ret
      exact ⟨rfl, HF.out.below⟩
    · have hd : decide ((16 : Int) < (n : Int)) = false := by simp; omega
      have hn16 : n ≤ 16 := by omega
      clear h16
      go_wp2_with fail
      refine (dmay_any A n c l s _ HF.out.at_ (by omega)).mono ?_
      rintro e w2 ⟨rfl, hb⟩
      replace HF := hide (HF.out.step hb)
      clear hb
      cases hmy : mayM l s
      · go_wp2_with fail
        refine (wakes_any _).mono ?_
        rintro e w4 ⟨rfl, hb⟩
        replace HF := hide (HF.out.step hb)
        clear hb hmy
        go_wp2
        go_ret
        exact ⟨rfl, HF.out.below⟩
      · have HE := hide (runE_ok (by rw [HL.out]; exact hn16) hmy)
        clear hmy
        obtain ⟨iM, hiM, hzM, hsM, hbM⟩ := info_parts infM
        have IM := hide (And.intro hiM (And.intro hzM (And.intro hsM hbM)))
        clear hiM hzM hsM hbM
        go_wp2_with fail
        go_loopw [7, 8] (fun bv i wr => ∃ k : Nat, k ≤ n ∧ i = .int .i64 k ∧ BF A n l R w wr ∧ wr.ownsRow (w.heap.size + 1) 32 2 bv k ((bkL (l.take k)).flatMap mvC) ∧ Hid (∀ j x, j < k → l[j]? = some x → EndsP l x.2 n)) (fun _ i _ => n - (intOf i).toNat)
        case atStart => exact ⟨0, by omega, rfl, HF.out, ⟨rfl, .inl ⟨rfl, rfl⟩⟩, fun j x h => by omega⟩
        case round =>
          obtain ⟨k, hk, rfl, hf, hown, HEN⟩ := hrel
          clear HF
          have HF := hide hf
          have HOW := hide hown
          clear hf hown
          by_cases hlt : k < n
          · obtain ⟨ad, x, rfl, hab, hx, hxw, hcell⟩ := HF.out.mvs.at_ hlt
            have HX := hide hx
            obtain ⟨x0, x1⟩ := x
            obtain ⟨p, hp⟩ : ∃ p, ad.add (k * 2) = p := ⟨_, rfl⟩
            clear hcell hxw hx
            go_wp2_with fail
            obtain ⟨wo, rfl⟩ : ∃ wo : World, wo = wr := ⟨_, rfl⟩
            go_loopw [9, 10] (fun ev i wq => ∃ (j : Nat) (b : Bool), j ≤ n ∧ i = .int .i64 j ∧ ev = .bool b ∧ Hid (b = true ↔ EndsP l x1 j) ∧ BF (some ad) n l R w wq ∧ wq.ownsRow (w.heap.size + 1) 32 2 u7 k ((bkL (l.take k)).flatMap mvC)) (fun _ i _ => n - (intOf i).toNat)
            case atStart => exact ⟨0, false, by omega, rfl, rfl, ⟨(fun h => by cases h), (fun ⟨q, y, h, _⟩ => by omega)⟩, HF.out, HOW.out⟩
            case round =>
              obtain ⟨j, b, hj, rfl, rfl, HB, hf, hown⟩ := hrel
              clear HF HOW
              have HF := hide hf
              have HOW := hide hown
              clear hf hown
              by_cases hlj : j < n
              · obtain ⟨ad', y, hae, _, hy, _, hcy⟩ := HF.out.mvs.at_ hlj
                obtain ⟨ad2, x', hae2, _, hx2, _, hcx⟩ := HF.out.mvs.at_ hlt
                injection hae with hae
                subst hae
                injection hae2 with hae2
                subst hae2
                have hxx : x' = (x0, x1) := by
                  have := HX.out
                  rw [hx2] at this
                  exact Option.some.inj this
                subst hxx
                have HNX := hide (ends_next (x1 := x1) hy)
                obtain ⟨y0, y1⟩ := y
                dsimp only at HNX
                have e1 := hcx 1 _ rfl
                have f0 := hcy 0 _ rfl
                obtain ⟨q, hq⟩ : ∃ p, ad.add (j * 2) = p := ⟨_, rfl⟩
                rw [hp] at e1
                rw [hq] at f0
                simp [Addr.add] at e1 f0
                clear hcx hcy hy hx2
                have HFm := fun m => hide (HF.out.step (dDN m))
                have HOm := fun m => hide (HOW.out.kept (only_of_below (dDN m) none) (by cases u7.ownBlock <;> simp))
                cases b
                · cases hyx : (y0 == x1)
                  · have HNO := hide (show ¬ EndsP l x1 (j + 1) from fun h => by
                      rcases HNX.out.1 h with h | h
                      · have := HB.out.2 h; cases this
                      · exact absurd h (by simpa using hyx))
                    go_wp2_with fail
                    go_quiet (fail)
                    go_wp2
                    go_roundw
                    case measure => simp [intOf]; omega
                    case rel => exact ⟨j + 1, false, by omega, by go_num, rfl, ⟨(fun h => by cases h), (fun h => absurd h HNO.out)⟩, (HFm _).out, (HOm _).out⟩
                  · have HYES := hide (HNX.out.2 (.inr (by simpa using hyx)))
                    go_wp2_with fail
                    go_quiet (fail)
                    go_wp2
                    go_roundw
                    case measure => simp [intOf]; omega
                    case rel => exact ⟨j + 1, true, by omega, by go_num, rfl, ⟨fun _ => HYES.out, fun _ => rfl⟩, (HFm _).out, (HOm _).out⟩
                · have HYES := hide (HNX.out.2 (.inl (HB.out.1 rfl)))
                  go_wp2_with fail
                  go_quiet (fail)
                  go_wp2
                  go_roundw
                  case measure => simp [intOf]; omega
                  case rel => exact ⟨j + 1, true, by omega, by go_num, rfl, ⟨fun _ => HYES.out, fun _ => rfl⟩, (HFm _).out, (HOm _).out⟩
              · obtain rfl : j = n := by omega
                cases b
                · clear HB
                  go_wp2_with fail
                  refine (wakes_any _).mono ?_
                  rintro e w4 ⟨rfl, hb⟩
                  replace HF := hide (HF.out.step hb)
                  clear hb
                  go_wp2
                  go_ret
                  exact ⟨rfl, HF.out.below⟩
                · have HEN2 := hide (HB.out.1 rfl)
                  clear HB
                  obtain ⟨ad2, x', hae2, _, hx2, hxw, hcx⟩ := HF.out.mvs.at_ hlt
                  injection hae2 with hae2
                  subst hae2
                  have hxx : x' = (x0, x1) := by
                    have := HX.out
                    rw [hx2] at this
                    exact Option.some.inj this
                  subst hxx
                  have e0 := hcx 0 _ rfl
                  have e1 := hcx 1 _ rfl
                  rw [hp] at e0 e1
                  simp [Addr.add] at e0 e1
                  clear hcx hx2 hxw
                  go_wp2_with fail
                  have HD := hide ((Below.refl _ _).drew : Below wr.heap.size wr wr.drew)
                  have hszw := HF.out.regs.lt
                  go_region_law (first
                    | (refine step_append_any _ rfl (.tmp 59) (.tmp 71) 22 rfl (w.heap.size + 1) 32 iM _ 2 2 Try.underlying22 IM.out.1 IM.out.2.1 IM.out.2.2.1 IM.out.2.2.2 rfl (by omega) u7 k _ (by rfl) (by first | exact HOW.out.alloc _ | exact HOW.out.drew.alloc _) _ _ 1 1 [.int .i8 x1, .int .i8 x0] (by rfl) (by first | exact reads_two _ _ _ | exact (reads_two _ _ _).drew) (mvC_one (x1, x0)) (by unfold maxLen; omega) (by omega) (by first | omega | (simp; omega)) ?_
                       intro v7 w7 O7 G7 _))
                  all_goals
                    have hBA : Below wr.heap.size wr (wr.alloc (.cells #[.int .i8 x1, .int .i8 x0] 32)).drew := ((Below.refl _ _).alloc (Nat.le_refl _) _).drew
                    have HF7 := hide ((HF.out.step hBA).grown G7 (fun g e => ((RowL.of_own HOW.out).ge g e).1))
                    have HO7 := hide O7
                    clear O7 G7 hBA HOW HF HD e0 e1
                    go_wp2
                    go_roundw
                    case measure => simp [intOf]; omega
                    case rel =>
                      refine ⟨k + 1, by omega, by go_num, HF7.out, ?_, fun q y hq hy => ?_⟩
                      · rw [bkL_take HX.out, List.flatMap_append]
                        have h7 := HO7.out
                        rw [show [Value.int .i8 x1, .int .i8 x0] = mvC (swM (x0, x1)) from rfl] at h7
                        simpa using h7
                      · rcases Nat.lt_or_ge q k with h | h
                        · exact HEN.out q y h hy
                        · obtain rfl : q = k := by omega
                          have := HX.out
                          rw [hy] at this
                          obtain rfl := Option.some.inj this
                          exact HEN2.out
          · obtain rfl : k = n := by omega
            have HENDS := hide (show ∀ x ∈ l, x.2 ∈ l.map (·.1) from fun x hx => by
              obtain ⟨j, hj, rfl⟩ := List.getElem_of_mem hx
              obtain ⟨q, y, _, hy, e⟩ := HEN.out j _ (by have := HL.out; omega) (List.getElem?_eq_getElem hj)
              rw [← e]
              exact List.mem_map.2 ⟨y, List.mem_of_getElem? hy, rfl⟩)
            clear HEN
            obtain ⟨AB, cB, rfl, hcB, hrB⟩ := own_sl HOW.out
            rw [List.take_of_length_le (by have := HL.out; omega)] at hrB
            have hBB : MvsAt wr wr.heap.size AB k (bkL l) := ⟨by unfold bkL; rw [List.length_map, HL.out], fun x hx => by
              unfold bkL at hx
              obtain ⟨y, hy, rfl⟩ := List.mem_map.1 hx
              exact ⟨(HWL.out y hy).2, (HWL.out y hy).1⟩, hrB⟩
            have HB := hide hBB
            clear hBB
            clear hrB HOW hk hlt
            go_wp2_with fail
            refine (dmay_any AB k cB (bkL l) s _ HB.out (by omega)).mono ?_
            rintro e w5 ⟨rfl, hb⟩
            replace HF := hide (HF.out.step hb)
            replace HB := hide (HB.out.up hb hb.size)
            clear hb
            cases hmy : mayM (bkL l) s
            · go_wp2_with fail
              refine (wakes_any _).mono ?_
              rintro e w4 ⟨rfl, hb⟩
              replace HF := hide (HF.out.step hb)
              clear hb hmy
              go_wp2
              go_ret
              exact ⟨rfl, HF.out.below⟩
            · have HE2 := hide (runE_ok (by unfold bkL; rw [List.length_map, HL.out]; exact hn16) hmy)
              clear hmy
              go_wp2_with fail
              refine (run_any A k c l s _ HF.out.at_ HS.out (by omega)).mono ?_
              rintro e w6 ⟨A2, c2, rfl, hc2, hat2, hb⟩
              replace HF := hide (HF.out.step hb)
              replace HB := hide (HB.out.up hb hb.size)
              have HA2 := hide hat2
              rw [HE.out]
              clear hb hat2 hc2
              go_wp2_with fail
              refine (run_any AB k cB (bkL l) s _ HB.out HS.out (by omega)).mono ?_
              rintro e w7 ⟨A3, c3, rfl, hc3, hat3, hb⟩
              replace HF := hide (HF.out.step hb)
              replace HB := hide (HB.out.up hb hb.size)
              replace HA2 := hide (HA2.out.up hb hb.size)
              have HA3 := hide hat3
              rw [HE2.out]
              clear hb hat3 hc3
              have HG := hide ((may_regs (runE_zero HE.out).2.1).1)
              have hlen : (runO (bkL l) s).length = (runO l s).length := by
                obtain ⟨cc, hcc⟩ := cyc_ex (l := l) (fun x hx => ⟨regB_iff.2 (HG.out x hx).1, regB_iff.2 (HG.out x hx).2⟩)
                exact (bk_len HE.out HE2.out hcc).2
              have hm33 : (runO l s).length ≤ 33 := by
                rw [(runE_zero HE.out).2.2]
                have := runA_le s (runL l)
                have : (runL l).length ≤ l.length := List.length_filter_le _ _
                have := HL.out
                omega
              rw [hlen] at HA3 ⊢
              obtain ⟨m, hm2⟩ : ∃ v, (runO l s).length = v := ⟨_, rfl⟩
              rw [hm2] at HA2 HA3 hm33 ⊢
              clear hlen hm2
              go_wp2_with fail
              refine (circles_any A k c l _ HF.out.at_ (by omega)).mono ?_
              rintro e w8 ⟨cc, rfl, hc1, _, hcl, hb⟩
              have HC1 := hide (hc1 (may_iff.1 (runE_zero HE.out).2.1).2.2)
              replace HF := hide (HF.out.step hb)
              replace HB := hide (HB.out.up hb hb.size)
              replace HA2 := hide (HA2.out.up hb hb.size)
              replace HA3 := hide (HA3.out.up hb hb.size)
              clear hb hc1
              go_wp2_with fail
              refine (circles_any AB k cB (bkL l) _ HB.out (by omega)).mono ?_
              rintro e w9 ⟨kk, rfl, hk1, _, hkl, hb⟩
              obtain rfl : kk = cc := cyc_one (hk1 (may_iff.1 (runE_zero HE2.out).2.1).2.2) (bk_len HE.out HE2.out HC1.out).1
              replace HF := hide (HF.out.step hb)
              replace HA2 := hide (HA2.out.up hb hb.size)
              replace HA3 := hide (HA3.out.up hb hb.size)
              clear hb hk1 HB HC1 hcl hkl
              have HUL := hide (show (uC R).length = 16 by unfold uC; rw [List.length_map, HR.out])
              go_wp2_with (first
                | (refine wpList_load_at rfl 25 (.tmp 5) rfl ⟨w.heap.size, 0, none⟩ rfl (uC R) _ (blk_list HF.out.regs) Try.underlying25 rfl (by rw [HUL.out]; exact infU) ?_)
                | fail)
              refine (do_any A2 m c2 (runO l s) R _ HA2.out HR.out (by omega)).mono ?_
              rintro e w10 ⟨rfl, hb⟩
              replace HF := hide (HF.out.step hb)
              replace HA3 := hide (HA3.out.up hb hb.size)
              clear hb HA2
              go_wp2_with fail
              refine (do_any A3 m c3 (runO (bkL l) s) (doL (runO l s) R) _ HA3.out (by rw [doL_len, HR.out]) (by omega)).mono ?_
              rintro e w11 ⟨rfl, hb⟩
              replace HF := hide (HF.out.step hb)
              have HBK := hide (bk_regs HE.out HE2.out HENDS.out HR.out)
              obtain ⟨X, hX⟩ : ∃ v, doL (runO (bkL l) s) (doL (runO l s) R) = v := ⟨_, rfl⟩
              have HXL := hide (show X.length = 16 by rw [← hX, doL_len, doL_len, HR.out])
              rw [hX] at HBK ⊢
              have HXU := hide (show (uC X).length = 16 by unfold uC; rw [List.length_map, HXL.out])
              clear hb hX HA3
              obtain ⟨iU, hiU, hzU, hsU, hbU⟩ := info_parts infV
              have IU := hide (And.intro hiU (And.intro hzU (And.intro hsU hbU)))
              clear hiU hzU hsU hbU
              have hsr := (may_regs (runE_zero HE.out).2.1).2.1
              go_upto_region 22 with (first
                | (refine wpList_new rfl rfl 25 (.tmp 15) (.tmp 114) rfl rfl iU _ (.agg (uC X).toArray) (uC X).toArray IU.out.1 IU.out.2.1 (by rw [IU.out.2.2.1]; first | done | rfl) rfl (by rw [IU.out.2.2.1]; simpa using HXU.out) (all_one (uC_one _)) (by rfl) (by rfl) ?_
                   intro w12 g12 G12 X12 L12
                   have hg12 : w.heap.size < g12 := by have := HF.out.regs.lt; omega
                   replace HF := hide (HF.out.step L12)
                   have HX12 := hide X12
                   clear X12 L12)
                | fail)
              obtain ⟨r, rfl⟩ := Int.eq_ofNat_of_zero_le hsr.1
              have hr16 : r < 16 := by omega
              have cx := blk_reg HX12.out HXL.out hr16
              have cr := blk_reg HF.out.regs HR.out hr16
              have fx := HX12.out.frozen r
              rw [Int.toNat_natCast] at HBK
              have hri : (r : Int) < 16 := by omega
              go_upto_region 23 with fail
              have hX6 : Blk (w12.setCell ⟨g12, r, none⟩ (.int .u64 (valF R r))) g12 25 (uC R).toArray := by
                have := blk_set (r := r) (v := valF R r) HX12.out
                rw [HBK.out] at this
                exact this
              have HX6 := hide hX6
              have hF6 : BF A k l R w (w12.setCell ⟨g12, r, none⟩ (.int .u64 (valF R r))) := HF.out.grown (row := some g12) ⟨rfl, rfl, rfl, by simp [World.setCell], fun i _ hne => Below.heap_setCell w12 ⟨g12, r, none⟩ _ i (fun e => hne (by rw [e]))⟩ (fun g e => by injection e with e; omega)
              have HF6 := hide hF6
              clear hX6 hF6
              generalize w12.setCell ⟨g12, r, none⟩ (.int .u64 (valF R r)) = w13 at HX6 HF6 ⊢
              clear cx cr fx HF HX12
              have hE : ∀ w : World, (binOp .eql 25 (.agg (uC R).toArray) (.agg (uC R).toArray)).run Try.prog w = .ok (.bool true) w := fun w => by
                rw [eql_regs HR.out HU.out HR.out HU.out w, (eqL_iff _ _ _ (all_regs HR.out HU.out) (all_regs HR.out HU.out)).2 rfl]
              go_wp2_with (first
                | (refine wpList_load_at rfl 25 (.tmp 15) rfl ⟨g12, 0, none⟩ rfl (uC R) _ (blk_list HX6.out) Try.underlying25 rfl (by rw [HUL.out]; exact infU) ?_)
                | (refine wpList_load_at rfl 25 (.tmp 5) rfl ⟨w.heap.size, 0, none⟩ rfl (uC R) _ (blk_list HF6.out.regs) Try.underlying25 rfl (by rw [HUL.out]; exact infU) ?_)
                | fail)
              refine (wakes_any _).mono ?_
              rintro e w14 ⟨rfl, hb⟩
              replace HF6 := hide (HF6.out.step hb)
              clear hb hE
              go_wp2
              go_ret
              exact ⟨rfl, HF6.out.below⟩
  · go_wp2_with fail
    refine (wakes_any _).mono ?_
    rintro e w4 ⟨rfl, hb⟩
    replace HF := hide (HF.out.step hb)
    clear hb
    go_wp2
    go_ret
    exact ⟨rfl, HF.out.below⟩
theorem back_row (A : Option Addr) (n c : Nat) (l : List Mv) (s : Int) (R : List Int) (hs : (Lit.int .i8 s).wf = true) (hR : R.length = 16) (hU : ∀ x ∈ R, U64 x) (w : World) (hh : MvsAt w w.heap.size A n l) (hm : n < 9223372036854775808) :
    Calls Try.prog 5 #[.slice A n c, .int .i8 s, .agg (uC R).toArray] w fun e w' => e = .returned (.bool true) ∧ Below w.heap.size w w' :=
  back_walk A n c l s R w (by have := bounds_i8 hs; unfold I8; omega) hR hU hh hm
end Go.Proofs.Ytdnibhcpbdjhlaa
