/-
  The document's Run. Conditions: those written in each statement.
-/
import Derived.Test.YtdnibhcpbdjhlaaDc
import Derived.Test.YtdnibhcpbdjhlaaMt
namespace Go.Proofs.Ytdnibhcpbdjhlaa
open Go.RowKit
set_option linter.unusedVariables false
set_option linter.unusedSimpArgs false
def D1 (l : List Mv) (w : World) (A : Option Addr) (n : Nat) (sv i : Value) (wr : World) : Prop :=
  ∃ k : Nat, k ≤ n ∧ i = .int .i64 k ∧ wr.ownsRow w.heap.size 32 2 sv (runL (l.take k)).length ((runL (l.take k)).flatMap mvC) ∧ DF A n l w wr
set_option maxRecDepth 100000 in
set_option maxHeartbeats 8000000 in
theorem drun_any (A : Option Addr) (n c : Nat) (l : List Mv) (s : Int) (w : World) (hh : MvsAt w w.heap.size A n l) (hs : I8 s) (hm : n < 9223372036854775807) :
    Calls Try.prog 11 #[.slice A n c, .int .i8 s] w (RunP l s w) := by
  have HF := hide (⟨hh, Below.refl _ _⟩ : DF A n l w w)
  have HL := hide hh.1
  have HWW := hide hh.2.1
  have HS := hide hs
  clear hh hs
  by_cases h16 : 16 < n
  · have hd : decide ((16 : Int) < (n : Int)) = true := by simp; omega
    have HO := hide (show runO l s = [] by unfold runO; rw [HL.out, if_pos h16])
    have HE := hide (show runE l s = 3 by unfold runE; rw [HL.out, if_pos h16])
    clear h16
    go_enter Try.func11, Try.ntmps11
    go_wp2
    go_ret2
    exact run_bad HO.out HE.out (Below.refl _ _)
  · have hd : decide ((16 : Int) < (n : Int)) = false := by simp; omega
    have hn16 : n ≤ 16 := by omega
    have HNO := hide (show ¬ 16 < l.length by rw [HL.out]; exact h16)
    clear h16
    cases hmy : mayM l s
    · have HO := hide (show runO l s = [] by unfold runO; rw [if_neg HNO.out, hmy]; rfl)
      have HE := hide (show runE l s = 2 by unfold runE; rw [if_neg HNO.out, hmy]; rfl)
      go_enter Try.func11, Try.ntmps11
      go_wp2_with fail
      refine (dmay_any A n c l s _ HF.out.mvs hm).mono ?_
      rintro e w1 ⟨rfl, hb⟩
      rw [hmy]
      have HB := hide hb
      clear hb hmy
      go_wp2
      go_ret2
      exact run_bad HO.out HE.out HB.out
    · have HO := hide (show runO l s = runA s (runL l) by unfold runO; rw [if_neg HNO.out, hmy]; rfl)
      have HE := hide (show runE l s = 0 by unfold runE; rw [if_neg HNO.out, hmy]; rfl)
      have HOK := hide (ok_runL hmy)
      obtain ⟨iM, hiM, hzM, hsM, hbM⟩ := info_parts infM
      have IM := hide (And.intro hiM (And.intro hzM (And.intro hsM hbM)))
      clear hiM hzM hsM hbM
      go_enter Try.func11, Try.ntmps11
      go_wp2_with fail
      refine (dmay_any A n c l s _ HF.out.mvs hm).mono ?_
      rintro e w1 ⟨rfl, hb⟩
      rw [hmy]
      replace HF := hide (HF.out.step hb)
      clear hb hmy
      go_wp2
      go_loopw [6, 8] (fun sv i wr => D1 l w A n sv i wr) (fun _ i _ => n - (intOf i).toNat)
      case atStart => exact ⟨0, by omega, rfl, ⟨rfl, .inl ⟨rfl, rfl⟩⟩, HF.out⟩
      case round =>
        obtain ⟨k, hk, rfl, hown, hf⟩ := hrel
        clear HF
        have HF := hide hf
        have HOW := hide hown
        clear hf hown
        by_cases hlt : k < n
        · obtain ⟨ad, x, rfl, hab, hx, hxw, hcell⟩ := HF.out.mvs.at_ hlt
          have HX := hide hx
          have HC := hide hcell
          have hlk := runL_len l k
          have HRT := hide (runL_take hx)
          obtain ⟨x0, x1⟩ := x
          have e0 := hcell 0 _ rfl
          have e1 := hcell 1 _ rfl
          obtain ⟨p, hp⟩ : ∃ p, ad.add (k * 2) = p := ⟨_, rfl⟩
          rw [hp] at e0 e1 HC
          simp [Addr.add] at e0 e1
          obtain ⟨nk, hnk⟩ : ∃ v, (runL (l.take k)).length = v := ⟨_, rfl⟩
          rw [hnk] at hlk HOW
          have HNK := hide hnk
          clear hcell hxw hx hnk
          have hszw := HF.out.below.size
          cases hns : (x0 != x1)
          · have HNS := hide (show nsB (x0, x1) = false by unfold nsB; dsimp only; simpa using hns)
            have HFm := fun m => hide (HF.out.step (dDN m))
            have HOm := fun m => hide (HOW.out.kept (only_of_below (dDN m) none) (by cases u6.ownBlock <;> simp))
            go_wp2_with fail
            go_quiet (fail)
            go_wp2
            go_roundw
            case measure => simp [intOf]; omega
            case rel =>
              refine ⟨k + 1, by omega, by go_num, ?_, (HFm _).out⟩
              rw [HRT.out, HNS.out, if_neg (by simp), List.append_nil, HNK.out]
              exact (HOm _).out
          · have HNS := hide (show nsB (x0, x1) = true by unfold nsB; dsimp only; simpa using hns)
            go_wp2_with fail
            go_quiet (fail)
            have HF5 := hide (HF.out.step (dDN nq))
            have HO5 := hide (HOW.out.kept (only_of_below (dDN nq) none) (by cases u6.ownBlock <;> simp))
            have g0 : (wr.drewN nq).cell? p = some (.int .i8 x0) := e0
            have g1 : (wr.drewN nq).cell? ⟨p.block, p.off + 1, none⟩ = some (.int .i8 x1) := e1
            have hsz5 := HF5.out.below.size
            generalize wr.drewN nq = wq at HF5 HO5 g0 g1 hsz5 ⊢
            clear e0 e1 HC
            go_wp2_with (first
              | (refine wpList_push rfl rfl 22 32 (.tmp 41) (.tmp 37) (.tmp 42) rfl rfl w.heap.size 2 2 iM _ (.agg #[.int .i8 x0, .int .i8 x1]) u6 [.int .i8 x0, .int .i8 x1] _ nk Try.underlying22 IM.out.1 IM.out.2.1 IM.out.2.2.1 IM.out.2.2.2 rfl (by omega) (by omega) (by rfl) rfl rfl (mvC_one (x0, x1)) HO5.out hsz5 (by unfold maxLen; omega) (by omega) (by rfl) (by rfl) ?_
                 intro v7 w7 g7 G7 O7 B7 P7
                 have HO7 := hide O7
                 have HF7 := hide (⟨HF5.out.mvs.below B7, HF5.out.below.trans B7⟩ : DF (some ad) n l w w7)
                 clear O7 B7 P7))
            go_roundw
            case measure => simp [intOf]; omega
            case rel =>
              refine ⟨k + 1, by omega, by go_num, ?_, HF7.out⟩
              rw [HRT.out, HNS.out, if_pos rfl, List.length_append, HNK.out, List.flatMap_append]
              have h7 := HO7.out
              rw [show [Value.int .i8 x0, .int .i8 x1] = mvC (x0, x1) from rfl] at h7
              simpa using h7
        · obtain rfl : k = n := by omega
          have hwl : ∀ x ∈ runL l, mvW x := fun x hx => HF.out.mvs.2.1 x (List.mem_filter.1 hx).1
          have HWL := hide hwl
          have hown := HOW.out
          rw [List.take_of_length_le (by have := HL.out; omega)] at hown
          have HOWN := hide hown
          clear hk hlt hwl hown HOW
          go_wp2
          go_loopw [7, 6] (fun ov lv wq => R2Rel l s w ov lv wq) (fun ov _ _ => (runA s (runL l)).length - lenOf ov)
          case atStart =>
            exact ⟨runL l, [], rfl, HOK.out, Nat.le_trans (List.length_filter_le _ _) (by rw [HL.out]; exact hn16), HWL.out, by simp, ⟨rfl, .inl ⟨rfl, rfl⟩⟩, RowL.of_own HOWN.out, fun g _ => by simp [Value.ownBlock], HF.out.below⟩
          case round =>
            obtain ⟨L, O, h2⟩ := hrel
            have H2 := hide h2
            clear h2
            obtain ⟨AL, cL, rfl, hcL, hat⟩ := H2.out.mvs
            have HAT := hide hat
            obtain ⟨m, hm⟩ : ∃ v, L.length = v := ⟨_, rfl⟩
            rw [hm] at hcL HAT H2 ⊢
            have HM := hide hm
            have hm16 : m ≤ 16 := by rw [← hm]; exact H2.out.few
            have hRA : (runA s (runL l)).length ≤ 33 := by
              have := runA_le s (runL l)
              have : (runL l).length ≤ 16 := Nat.le_trans (List.length_filter_le _ _) (by rw [HL.out]; exact hn16)
              omega
            clear hat hm
            by_cases hm0 : m = 0
            · subst hm0
              obtain ⟨AO, cO, rfl, hcO, hrO⟩ := own_sl H2.out.out
              have hLnil : L = [] := List.eq_nil_of_length_eq_zero HM.out
              have hO : runO l s = O := by
                rw [HO.out, ← H2.out.sum, hLnil, run_nil, List.append_nil]
              have HOO := hide hO
              have HRO := hide hrO
              clear hO hrO hLnil
              go_wp2
              go_ret2
              unfold RunP
              rw [HOO.out, HE.out]
              exact ⟨AO, cO, rfl, hcO, ⟨rfl, H2.out.wo, HRO.out⟩, H2.out.below⟩
            · have hpos : (0 : Int) < (m : Int) := by omega
              have hLne : L ≠ [] := fun e => by rw [e] at HM; exact hm0 HM.out.symm
              have HLN := hide hLne
              have hOl := H2.out.less hLne
              obtain ⟨no, hno⟩ : ∃ v, O.length = v := ⟨_, rfl⟩
              rw [hno] at hOl
              have HNO2 := hide hno
              clear hLne hno
              go_wp2_with fail
              refine (dfree_any AL m cL L _ HAT.out (by omega)).mono ?_
              rintro e w5 ⟨rfl, hb⟩
              have hszw := H2.out.below.size
              have H5 := hide (H2.out.step hb)
              clear hb
              cases hfr : freeP L with
              | some k =>
                rw [show freeI L = k by unfold freeI; rw [hfr]]
                obtain ⟨a, x, bb, hsp, her, hgd, hxk, hkl, hfree⟩ := free_split hfr
                rw [HM.out] at hkl
                have HSP := hide (step_free (s := s) hfr her hgd)
                obtain ⟨ad, x', rfl, hab, hxk', hxw, hcell⟩ := (show MvsAt w5 w5.heap.size AL m L by
                  obtain ⟨A', c', e', _, h'⟩ := H5.out.mvs
                  injection e' with e1 e2
                  subst e1
                  rw [HM.out] at h'
                  exact h').at_ hkl
                obtain rfl : x' = x := by rw [hxk] at hxk'; exact (Option.some.inj hxk').symm
                have HC := hide hcell
                have HXW := hide hxw
                have HL' := hide (And.intro hsp her)
                have hno33 : no + 1 ≤ 34 := by omega
                clear hcell hxw hxk hxk' hgd hsp her
                obtain ⟨x0, x1⟩ := x'
                have hout5 := H5.out.out
                rw [HNO2.out] at hout5
                have HO5 := hide hout5
                have hsz5 := H5.out.below.size
                clear hout5
                have hapl : ∀ g, (Value.slice (some ad) m cL).ownBlock = some g → u7.ownBlock ≠ some g := H5.out.apart
                have HAP := hide hapl
                clear hapl
                go_upto_region 23 with (first
                  | (refine wpList_load_at rfl 32 (.tmp 82) rfl (ad.add (k * 2)) (by rfl) [.int .i8 x0, .int .i8 x1] _ HC.out Try.underlying32 rfl (by kernel_rfl) ?_)
                  | (refine wpList_push_at rfl rfl 22 32 (.tmp 83) (.tmp 79) (.tmp 84) rfl rfl w.heap.size 2 2 iM _ (.agg #[.int .i8 x0, .int .i8 x1]) u7 [.int .i8 x0, .int .i8 x1] _ no Try.underlying22 IM.out.1 IM.out.2.1 IM.out.2.2.1 IM.out.2.2.2 rfl (by omega) (by omega) (by rfl) rfl rfl (mvC_one (x0, x1)) HO5.out hsz5 (by unfold maxLen; omega) (by omega) (by rfl) (by rfl) ?_
                     intro v6 w6 g6 G6 O6 B6 P6 Q6
                     have HO6 := hide O6
                     have HB6 := hide (H5.out.below.trans B6)
                     have HLF6 := hide (H5.out.left.grown P6 (by
                       rcases h : (Value.slice (some ad) m cL).ownBlock with _ | g
                       · exact .inl rfl
                       · exact .inr (fun e => HAP.out g h e.symm)))
                     have HQ6 := hide Q6
                     clear O6 B6 P6 Q6))
                have hmk : k + 1 ≤ m := hkl
                have hf6 := HLF6.out
                rw [HM.out] at hf6
                obtain ⟨g, cap, e1, hmc, hgw, hgl⟩ := hf6.form (by omega)
                injection e1 with e1 _ e2
                injection e1 with e1
                subst e1 e2
                have HF6 := hide hf6
                obtain ⟨_, _, e1, _, hr6⟩ := hf6.slice
                injection e1 with e1 _ e2
                subst e1 e2
                have HR6 := hide hr6
                have HV6 := hide (fun q hq => ((RowL.of_own HO6.out).ge q hq).2)
                have hwr : IntKind.i64.wrap ((k : Int) + 1) = (k : Int) + 1 := IntWalk.i64_in _ (by omega)
                have hi0 : (0 : Int) ≤ (k : Int) := by omega
                have hi1 : (k : Int) ≤ (cL : Int) := by omega
                have hi2 : (k : Int) + 1 ≤ (m : Int) := by omega
                have hlen2 : (L.flatMap mvC).length = m * 2 := by rw [flat_len, HM.out]
                have HLEN2 := hide hlen2
                have hone : ∀ (q : List Value) , q.Sublist (L.flatMap mvC) → ∀ u ∈ q, u.oneCell' = true := fun q hq u hu => by
                  obtain ⟨y, _, hy⟩ := List.mem_flatMap.1 (hq.subset hu)
                  exact mvC_one y u hy
                have HONE := hide hone
                have hsz6 := HB6.out.size
                clear hlen2 hone hf6 hr6
                go_upto_region 24 with (first
                  | (refine wpList_append_any _ rfl (.tmp 86) (.tmp 89) 22 rfl w.heap.size 32 iM _ 2 2 Try.underlying22 IM.out.1 IM.out.2.1 IM.out.2.2.1 IM.out.2.2.2 (by rfl) (by omega) (.slice none 0 0) 0 [] (by rfl) ⟨rfl, .inl ⟨rfl, rfl⟩⟩ w6.heap.size (some ⟨g, 0, none⟩) k cL _ (by rfl) (HR6.out.take_g (by omega)) (HONE.out _ (List.take_sublist _ _)) (by unfold maxLen; omega) (by omega) hsz6 ?_
                     intro v7 w7 O7 G7 Q7
                     have HO7 := hide O7
                     have HG7 := hide (show w6.grownBy w7 none from G7)
                     have HQ7 := hide (show v7.ownBlock = none ∨ v7.ownBlock = some w6.heap.size from Q7)
                     clear O7 G7 Q7))
                have HL7 := hide (HF6.out.grown HG7.out (.inr (by simp [Value.ownBlock])))
                have HO67 := hide (HO6.out.kept HG7.out (by cases v6.ownBlock <;> simp))
                obtain ⟨_, _, e1, _, hr7⟩ := HL7.out.slice
                injection e1 with e1 _ e2
                subst e1 e2
                have HR7 := hide hr7
                have hB7 := HB6.out.grown HG7.out hsz6 (fun q e => by cases e)
                have HB7 := hide hB7
                have hsz7 := hB7.size
                clear hr7 hB7
                go_wp2_with (first
                  | (refine wpList_from rfl 22 32 (.tmp 92) (.tmp 94) rfl Try.underlying22 2 sizM (some ⟨g, 0, none⟩) m cL (k + 1) .i64 (by rfl) (by rfl) hkl hmc w7.heap.size _ HR7.out ?_
                     intro A8 R8
                     have HR8 := hide R8
                     clear R8)
                  | (refine wpList_append_any _ rfl (.tmp 91) (.tmp 95) 22 rfl w.heap.size 32 iM _ 2 2 Try.underlying22 IM.out.1 IM.out.2.1 IM.out.2.2.1 IM.out.2.2.2 (by rfl) (by omega) v7 (0 + k) _ (by rfl) HO7.out w7.heap.size A8 (m - (k + 1)) (cL - (k + 1)) _ (by rfl) HR8.out (HONE.out _ (List.drop_sublist _ _)) (by unfold maxLen; omega) (by omega) hsz7 ?_
                     intro v8 w8 O8 G8 Q8
                     have HO8 := hide O8
                     have HG8 := hide G8
                     have HQ8 := hide Q8
                     clear O8 G8 Q8))
                have HO68 := hide (HO67.out.kept HG8.out (by
                  rcases h6 : v6.ownBlock with _ | q
                  · exact .inl rfl
                  · right
                    have := HV6.out q h6
                    rcases HQ7.out with e | e
                    · rw [e]; simp
                    · rw [e]; intro e2; injection e2 with e2; omega))
                have HB8 := hide (HB7.out.grown HG8.out hsz7 (fun q e => by
                  rcases HQ7.out with e2 | e2
                  · rw [e2] at e; cases e
                  · rw [e2] at e; injection e with e; omega))
                go_roundw
                case measure =>
                  have q1 := own_len HO5.out
                  have q2 := own_len HO68.out
                  rw [q1, q2]
                  omega
                case rel =>
                  have hst := HSP.out
                  refine ⟨_, _, H2.out.put HLN.out (by rw [hst]; exact HXW.out) (by rw [hst]; intro y hy; exact H2.out.wl y (by rw [HL'.out.1]; rcases List.mem_append.1 hy with q | q; exact List.mem_append.2 (.inl q); exact List.mem_append.2 (.inr (List.mem_cons_of_mem _ q))))
                    (by rw [hst, ← HL'.out.2, List.length_eraseIdx]; split <;> (have := HM.out; omega)) ?_ ?_ ?_ HB8.out⟩
                  · rw [hst, HNO2.out]
                    exact HO68.out
                  · rw [hst, ← HL'.out.2, flat_erase _ _ (by rw [HM.out]; exact hkl), List.length_eraseIdx, if_pos (by rw [HM.out]; exact hkl), HM.out, show m - 1 = 0 + k + (m - (k + 1)) by omega]
                    exact RowL.of_own (by have h := HO8.out; simpa using h)
                  · intro q hqv e7
                    have h6 := HV6.out q e7
                    have hz7 := HG7.out.size
                    rcases HQ8.out with e | e
                    · rw [e] at hqv
                      rcases HQ7.out with e2 | e2
                      · rw [e2] at hqv; cases hqv
                      · rw [e2] at hqv; injection hqv with hqv; omega
                    · rw [e] at hqv
                      injection hqv with hqv
                      omega
              | none =>
                rw [show freeI L = -1 by unfold freeI; rw [hfr]]
                have hL5 := H5.out.left
                rw [HM.out] at hL5
                obtain ⟨g, cap, e1, hmc, hgw, hgl⟩ := hL5.form (by omega)
                injection e1 with e1 _ e2
                subst e1 e2
                obtain ⟨x, t, hLx⟩ : ∃ x t, L = x :: t := by
                  cases L with
                  | nil => exact absurd rfl HLN.out
                  | cons x t => exact ⟨x, t, rfl⟩
                obtain ⟨x0, f⟩ := x
                have hst : stepM s L = ((s, f), brk s f L) := by unfold stepM; rw [hfr, hLx]; rfl
                have HST := hide hst
                have hfw : I8 f := (H5.out.wl (x0, f) (by rw [hLx]; simp)).2
                have HFW := hide hfw
                have c01 : w5.cell? ⟨g, 1, none⟩ = some (.int .i8 f) := by
                  rw [hL5.cell 1 (by omega), hLx]
                  rfl
                have hout5 := H5.out.out
                rw [HNO2.out] at hout5
                have HO5 := hide hout5
                have HL5 := hide hL5
                have hsz5 := H5.out.below.size
                have hap : u7.ownBlock ≠ some g := H5.out.apart g rfl
                have HAP := hide hap
                clear hst hLx hfr hout5 hL5 hfw hap
                go_wp2_with (first
                  | (refine wpList_push_at rfl rfl 22 32 (.tmp 58) (.tmp 55) (.tmp 59) rfl rfl w.heap.size 2 2 iM _ (.agg #[.int .i8 s, .int .i8 f]) u7 [.int .i8 s, .int .i8 f] _ no Try.underlying22 IM.out.1 IM.out.2.1 IM.out.2.2.1 IM.out.2.2.2 rfl (by omega) (by omega) (by rfl) rfl rfl (mvC_one (s, f)) HO5.out hsz5 (by unfold maxLen; omega) (by omega) (by rfl) (by rfl) ?_
                     intro v6 w6 g6 G6 O6 B6 P6 Q6
                     have HO6 := hide O6
                     have HB6 := hide (H5.out.below.trans B6)
                     have HL6 := hide (HL5.out.grown P6 (.inr (fun e => HAP.out e.symm)))
                     have HQ6 := hide Q6
                     clear O6 B6 P6 Q6 c01))
                obtain ⟨wo, rfl⟩ : ∃ wo : World, wo = w6 := ⟨_, rfl⟩
                have hv6 : v6.ownBlock ≠ some g := by
                  rcases HQ6.out with e6 | ⟨q6, e6, hq6⟩
                  · rw [e6]; exact HAP.out
                  · rw [e6]; intro e7; injection e7 with e7; omega
                have HV6 := hide hv6
                clear hv6
                go_loopw [11] (fun i wq => R3Rel L s f g m cL no O v6 w i wq) (fun i _ => m - (intOf i).toNat)
                case atStart => exact ⟨0, by omega, rfl, by simpa [brkTo] using HL6.out, HO6.out, HB6.out⟩
                case round =>
                  obtain ⟨j, hj, rfl, hrow, hown, hbel⟩ := hrel
                  have HRW := hide hrow
                  have HOW2 := hide hown
                  have HBW := hide hbel
                  clear hrow hown hbel HL6 HO6 HB6
                  by_cases hlj : j < m
                  · have hjl : j < L.length := by have := HM.out; omega
                    obtain ⟨y, hy⟩ : ∃ y, L[j]? = some y := ⟨L[j], List.getElem?_eq_getElem hjl⟩
                    have HY := hide hy
                    obtain ⟨y0, y1⟩ := y
                    have hc1 : wr.cell? ⟨g, j * 2 + 1, none⟩ = some (.int .i8 y1) := by
                      rw [HRW.out.cell _ (by omega)]
                      exact flat_at mvC 2 _ (fun z _ => rfl) j 1 (y0, y1) _ (brkTo_at hy) rfl
                    have hf1 : wr.frozen? ⟨g, j * 2 + 1, none⟩ = false := HRW.out.frozen _
                    clear hy hjl
                    cases hyf : (y1 == f)
                    · have HYF := hide (show y1 ≠ f by simpa using hyf)
                      go_wp2
                      go_roundw
                      case measure => simp [intOf]; omega
                      case rel => exact ⟨j + 1, by omega, by go_num, by rw [brkTo_skip HY.out HYF.out]; exact HRW.out, HOW2.out, HBW.out⟩
                    · have HYF := hide (show y1 = f by simpa using hyf)
                      go_wp2
                      go_roundw
                      case measure => simp [intOf]; omega
                      case rel =>
                        obtain ⟨q1, q2⟩ := HRW.out.stored (j * 2 + 1) (.int .i8 s)
                        refine ⟨j + 1, by omega, by go_num, ?_, HOW2.out.kept q2 (.inr HV6.out), HBW.out.grown q2 HBW.out.size (fun g' e => by injection e with e; omega)⟩
                        rw [← brkTo_put HY.out HYF.out]
                        exact q1
                  · obtain rfl : j = m := by omega
                    clear hj hlj
                    go_wp2
                    go_roundw
                    case measure =>
                      have q1 := own_len HO5.out
                      have q2 := own_len HOW2.out
                      rw [q1, q2]
                      omega
                    case rel =>
                      have hbrk : brkTo s f j L = brk s f L := by unfold brkTo brk; rw [List.take_of_length_le (by rw [HM.out]; exact Nat.le_refl _), List.drop_of_length_le (by rw [HM.out]; exact Nat.le_refl _), List.append_nil]
                      have hrow := HRW.out
                      rw [hbrk] at hrow
                      have hlb : (brk s f L).length = j := by unfold brk; rw [List.length_map, HM.out]
                      refine ⟨_, _, H2.out.put HLN.out (by rw [HST.out]; exact ⟨HS.out, HFW.out⟩) (by
                        rw [HST.out]
                        intro y hy
                        unfold brk at hy
                        obtain ⟨z, hz, rfl⟩ := List.mem_map.1 hy
                        have hzw := H2.out.wl z hz
                        split
                        · exact ⟨hzw.1, HS.out⟩
                        · exact hzw) (by rw [HST.out]; dsimp only; rw [hlb]; exact hm16) ?_ ?_ ?_ HBW.out⟩
                      · rw [HST.out, HNO2.out]
                        exact HOW2.out
                      · rw [HST.out]
                        dsimp only
                        rw [hlb]
                        exact hrow
                      · intro q hq
                        injection hq with hq
                        subst hq
                        exact HV6.out
end Go.Proofs.Ytdnibhcpbdjhlaa
