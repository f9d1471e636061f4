/-
  The walk of MovesOnce: it answers true. Conditions: those written in each statement.
-/
import Derived.Test.YtdnibhcpbdjhlaaOn
import Derived.Test.YtdnibhcpbdjhlaaCa
import Derived.Test.YtdnibhcpbdjhlaaMv
import Derived.Test.YtdnibhcpbdjhlaaTw
import Derived.BigQuiet
namespace Go.Proofs.Ytdnibhcpbdjhlaa
open Go.RowKit
set_option linter.unusedVariables false
set_option linter.unusedSimpArgs false
theorem runL_lk {l : List Mv} (hn : (l.map (·.1)).Nodup) {r f : Int} : lk (runL l) r = some f ↔ lk l r = some f ∧ r ≠ f := by
  have hsub : (runL l).Sublist l := List.filter_sublist
  have hn2 := (hsub.map (·.1)).nodup hn
  rw [lk_iff hn2, lk_iff hn]
  unfold runL
  rw [List.mem_filter]
  unfold nsB
  simp
/-- Moves of a place to itself stand on no circle of two. -/
theorem cyc_runL {l : List Mv} (hn : (l.map (·.1)).Nodup) {c : Nat} (h : CycN l c) : CycN (runL l) c := by
  have hs : ∀ q f, lk (runL l) q = some f → lk l q = some f := fun q f h => ((runL_lk hn).1 h).1
  refine cyc_same (fun r => ⟨fun ⟨h1, h2⟩ => ?_, fun ⟨h1, h2⟩ => ?_⟩) h
  · have hst : ∀ q, lk l q = some q → ∀ n, itr l n q = some q := by
      intro q e n
      induction n with
      | zero => rfl
      | succ n ih => rw [itr, ih]; exact e
    have ho : OnC (runL l) r := by
      refine onc_sub h1.1 fun n q f hq hf => (runL_lk hn).2 ⟨hf, fun e => ?_⟩
      subst e
      obtain ⟨_, m, hm⟩ := onc_step h1.1 hq
      rw [hst q hf m] at hm
      injection hm with hm
      subst hm
      exact h2 hf
    exact ⟨(lst_sub hs ho).2 h1, fun e => h2 (hs _ _ e)⟩
  · have hl := (lst_sub hs h1.1).1 h1
    refine ⟨hl, fun e => ?_⟩
    obtain ⟨y, _, hy, _⟩ := onc_back h1.1 1
    rw [itr, show itr (runL l) 0 r = some r from rfl] at hy
    change lk (runL l) r = some y at hy
    obtain ⟨a, b⟩ := (runL_lk hn).1 hy
    rw [e] at a
    injection a with a
    exact b a
theorem runL_cnt {l : List Mv} {k : Nat} {x : Mv} (h : l[k]? = some x) : (runL (l.take (k + 1))).length = (runL (l.take k)).length + (if x.1 = x.2 then 0 else 1) := by
  rw [List.take_add_one, h, Option.toList_some]
  unfold runL
  rw [List.filter_append, List.length_append]
  congr 1
  unfold nsB
  by_cases e : x.1 = x.2
  · simp [e]
  · simp [e]
/-- How many moves come out. -/
theorem runO_len {l : List Mv} {s : Int} (h : runE l s = 0) {c : Nat} (hc : CycN l c) : (runO l s).length = (runL l).length + c := by
  obtain ⟨_, hm, ho⟩ := runE_zero h
  obtain ⟨_, _, hn⟩ := may_regs hm
  rw [ho]
  exact run_len _ (Nat.le_refl _) (ok_runL hm) c (cyc_runL hn hc)
theorem runO_nil {l : List Mv} {s : Int} (h : runE l s ≠ 0) : runO l s = [] := by
  unfold runE at h
  unfold runO
  split at h
  · rename_i q; rw [if_pos q]
  · rename_i q
    rw [if_neg q]
    split at h
    · exact absurd rfl h
    · rename_i p; rw [if_neg p]
theorem runE_or (l : List Mv) (s : Int) : runE l s = 0 ∨ runE l s = 3 ∨ (runE l s = 2 ∧ mayM l s = false) := by
  unfold runE
  split
  · exact .inr (.inl rfl)
  · split
    · exact .inl rfl
    · rename_i q; exact .inr (.inr ⟨rfl, by simpa using q⟩)
theorem bel_dN2 {B : Nat} {w : World} (m : Nat) : Below B w (w.drewN m) := by
  have := Below.refl B w
  exact ⟨this.os, this.tape, this.output, this.size, this.block⟩
structure OF2 (A : Option Addr) (n g9 g10 : Nat) (l : List Mv) (X Y : List Int) (w W : World) : Prop where
  below : Below w.heap.size w W
  mvs : MvsAt W W.heap.size A n l
  bx : Blk W g9 25 (uC X).toArray
  by_ : Blk W g10 25 (uC Y).toArray
section
variable {A : Option Addr} {n g9 g10 : Nat} {l : List Mv} {X Y : List Int} {w W V : World}
theorem OF2.step (h : OF2 A n g9 g10 l X Y w W) (hb : Below W.heap.size W V) : OF2 A n g9 g10 l X Y w V :=
  ⟨h.below.trans (hb.mono h.below.size), h.mvs.up hb hb.size, h.bx.below hb h.bx.lt, h.by_.below hb h.by_.lt⟩
theorem OF2.drewN (h : OF2 A n g9 g10 l X Y w W) (m : Nat) : OF2 A n g9 g10 l X Y w (W.drewN m) := h.step (bel_dN2 m)
end
set_option maxRecDepth 100000 in
set_option maxHeartbeats 8000000 in
theorem oncelaw_walk (A : Option Addr) (n c : Nat) (l : List Mv) (s : Int) (R : List Int) (w : World) (hs : I8 s) (hR : R.length = 16) (hU : ∀ x ∈ R, U64 x) (hh : MvsAt w w.heap.size A n l) (hm : n < 9223372036854775808) :
    Calls Try.prog 6 #[.slice A n c, .int .i8 s, .agg (uC R).toArray] w fun e w' => e = .returned (.bool true) ∧ Below w.heap.size w w' := by
  have HF := hide (SF.new (R := R) hh)
  have HR := hide hR
  have HS := hide hs
  have HU := hide hU
  clear hh hR hs hU
  go_enter Try.func6, Try.ntmps6
  go_wp2_with fail
  refine (great_any A n c _ hm).mono ?_
  rintro e w' ⟨rfl, rfl⟩
  cases hg : decide (100 < n)
  · have hn100 : n ≤ 100 := by simpa using hg
    clear hg
    go_wp2_with fail
    refine (run_any A n c l s _ HF.out.mvs HS.out (by omega)).mono ?_
    rintro e w2 ⟨A2, c2, rfl, hc2, hat2, hb⟩
    replace HF := hide (HF.out.step hb)
    have HAT2 := hide hat2
    clear hb hat2
    have HOR := hide (runE_or l s)
    have HNL := hide (fun h : runE l s ≠ 0 => runO_nil h)
    obtain ⟨er, her⟩ : ∃ v, runE l s = v := ⟨_, rfl⟩
    rw [her]
    rw [her] at HOR HNL
    have HER := hide her
    clear her
    by_cases he : er = 0
    · subst he
      have hmn : l.length ≤ 16 := (runE_zero HER.out).1
      have hon : (runO l s).length ≤ 33 := by
        rw [(runE_zero HER.out).2.2]
        have := runA_le s (runL l)
        have : (runL l).length ≤ l.length := List.length_filter_le _ _
        omega
      have HUL := hide (show (uC R).length = 16 by unfold uC; rw [List.length_map, HR.out])
      clear HOR HNL
      have hmay := (runE_zero HER.out).2.1
      obtain ⟨hrg, hsr, hnd⟩ := may_regs hmay
      have HRG := hide hrg
      have HND := hide hnd
      have HNM := hide (may_iff.1 hmay).2.2
      clear hmay hrg hnd
      obtain ⟨iU, hiU, hzU, hsU, hbU⟩ := info_parts infV
      have IU := hide (And.intro hiU (And.intro hzU (And.intro hsU hbU)))
      clear hiU hzU hsU hbU
      obtain ⟨X, hX⟩ : ∃ v, doL (runO l s) R = v := ⟨_, rfl⟩
      obtain ⟨Y, hY⟩ : ∃ v, oncL l R R = v := ⟨_, rfl⟩
      have HXL := hide (show X.length = 16 by rw [← hX, doL_len, HR.out])
      have HYL := hide (show Y.length = 16 by rw [← hY, oncL_len, HR.out])
      have HXU := hide (show (uC X).length = 16 by unfold uC; rw [List.length_map, HXL.out])
      have HYU := hide (show (uC Y).length = 16 by unfold uC; rw [List.length_map, HYL.out])
      have HSAME := hide (fun (r : Nat) (h1 : r < 16) (h2 : (r : Int) ≠ s) => (by rw [← hX, ← hY, run_once HER.out HR.out (by omega) (by omega) h2, oncL_once HR.out HRG.out HND.out (by omega) (by omega)] : valF X r = valF Y r))
      have HDO := hide (fun (v : World) (hb : Below w2.heap.size w2 v) => (do_any A2 _ c2 (runO l s) R v (HAT2.out.up hb hb.size) HR.out (by omega)).mono fun e w' h => (by rw [← hX]; exact h : e = .returned (.agg (uC X).toArray) ∧ Below v.heap.size v w'))
      have HON := hide (fun (v : World) (hb : Below w2.heap.size w2 v) => (once_any A n c l R v (HF.out.mvs.up hb hb.size) HR.out HU.out HRG.out HND.out (by omega)).mono fun e w' h => (by rw [← hY]; exact h : e = .returned (.agg (uC Y).toArray) ∧ Below v.heap.size v w'))
      clear hX hY
      have HRA := hide (fun (v : World) (hb : Below w2.heap.size w2 v) => (fun j u hu => by rw [Nat.zero_add, (HF.out.regs.below hb HF.out.regs.lt).cell j]; simpa using hu : v.rangeAt w.heap.size 0 (uC R)))
      go_upto_region 6 with fail
      have hdr : Below w2.heap.size w2 w2.drew := (Below.refl _ _).drew
      refine wp_region_any (by kernel_rfl) ?_
      refine two_calls (B := w2.heap.size) (w0 := w2.drew) (gR := w.heap.size) 25 iU _ (uC (List.replicate 16 0)) (uC R) (uC X) (uC Y) 10 17 (.slice A2 (runO l s).length c2) (.slice A n c) 22 25 22 25
        (by decide +kernel) (by kernel_rfl) (by decide +kernel)
        _ _ _ _ _ _ _ _ _ _ rfl rfl rfl rfl rfl rfl rfl rfl rfl rfl rfl rfl rfl rfl rfl rfl rfl rfl rfl rfl rfl rfl rfl rfl rfl rfl rfl rfl rfl rfl rfl rfl rfl rfl rfl rfl rfl rfl rfl rfl
        rfl rfl rfl (by simp) Try.underlying25 rfl IU.out.1 IU.out.2.1 (by rw [IU.out.2.2.1, HUL.out]) (by rw [IU.out.2.2.1, HXU.out]) (by rw [IU.out.2.2.1, HYU.out]) (by rw [IU.out.2.2.1]; simp [uC]) (uC_one _) (uC_one _)
        (fun v hb => HRA.out v (hdr.trans hb)) (fun _ _ => by kernel_rfl) (fun _ _ => by kernel_rfl) (fun v hb _ => HDO.out v (hdr.trans hb)) (fun v hb _ => HON.out v (hdr.trans hb)) ?_
        10 false false false false false false false false false false 0 0 _ _ ⟨fun k => by simp [ex8], rfl, rfl⟩ ⟨(fun h => by cases h), (fun h => by cases h), (fun h => by cases h), Below.refl _ _, Nat.le_refl _, (fun h => by cases h), (fun h => by cases h)⟩ (by decide)
      intro g9 g10 w3 X9 X10 bel3
      have HF3 := hide (OF2.mk (HF.out.below.trans ((hdr.trans bel3).mono HF.out.below.size)) (HF.out.mvs.up (hdr.trans bel3) bel3.size) X9 X10 : OF2 A n g9 g10 l X Y w w3)
      clear X9 X10 bel3 hdr HRA HDO HON HAT2
      simp only [Act.put, List.setIfInBounds_toArray, List.set_cons_zero, List.set_cons_succ]
      obtain ⟨m, hm2⟩ : ∃ v, (runO l s).length = v := ⟨_, rfl⟩
      rw [hm2]
      have HLEN := hide (fun (cc : Nat) (hc : CycN l cc) => (by rw [← hm2, runO_len HER.out hc] : m = (runL l).length + cc))
      rw [hm2] at hon
      clear hm2 HER hc2
      clear HF
      go_wp2_with fail
      refine (circles_any A n c l _ HF3.out.mvs (by omega)).mono ?_
      rintro e w4 ⟨cc, rfl, hc1, _, hcl, hb⟩
      have HCC := hide (HLEN.out cc (hc1 HNM.out))
      replace HF3 := hide (HF3.out.step hb)
      clear hb hc1 HLEN
      go_wp2_with fail
      go_loopw [11, 12] (fun v i wr => ∃ k : Nat, k ≤ n ∧ i = .int .i64 k ∧ v = .int .i64 ((cc + (runL (l.take k)).length : Nat) : Int) ∧ (runL (l.take k)).length ≤ k ∧ OF2 A n g9 g10 l X Y w wr) (fun _ i _ => n - (intOf i).toNat)
      case atStart => exact ⟨0, by omega, rfl, rfl, Nat.le_refl _, HF3.out⟩
      case round =>
        obtain ⟨k, hk, rfl, rfl, hkl, hf⟩ := hrel
        clear HF3
        have HF3 := hide hf
        clear hf
        by_cases hlt : k < n
        · obtain ⟨ad, x, rfl, hab, hx, hxw, hcell⟩ := HF3.out.mvs.at_ hlt
          have HT := hide (runL_cnt hx)
          obtain ⟨x0, x1⟩ := x
          dsimp only at HT
          have e0 := hcell 0 _ rfl
          have e1 := hcell 1 _ rfl
          obtain ⟨p, hp⟩ : ∃ p, ad.add (k * 2) = p := ⟨_, rfl⟩
          rw [hp] at e0 e1
          simp [Addr.add] at e0 e1
          clear hcell hxw hx
          obtain ⟨q, hq⟩ : ∃ v, (runL (l.take k)).length = v := ⟨_, rfl⟩
          rw [hq] at HT hkl ⊢
          clear hq
          cases hq : (x0 != x1)
          · have HQ := hide (show x0 = x1 by simpa using hq)
            go_wp2_with fail
            go_quiet (fail)
            go_wp2
            go_roundw
            case measure => simp [intOf]; omega
            case rel => exact ⟨k + 1, by omega, by go_num, by rw [HT.out, if_pos HQ.out]; rfl, by rw [HT.out, if_pos HQ.out]; omega, HF3.out.drewN _⟩
          · have HQ := hide (show ¬ x0 = x1 by simpa using hq)
            go_wp2_with fail
            go_quiet (fail)
            go_wp2
            go_roundw
            case measure => simp [intOf]; omega
            case rel => exact ⟨k + 1, by omega, by go_num, by rw [HT.out, if_neg HQ.out]; go_num, by rw [HT.out, if_neg HQ.out]; omega, HF3.out.drewN _⟩
        · obtain rfl : k = n := by omega
          have ht : l.take k = l := List.take_of_length_le (by rw [HF3.out.mvs.1]; exact Nat.le_refl _)
          rw [ht]
          have he : cc + (runL l).length = m := by rw [HCC.out]; omega
          rw [he]
          clear ht he hlt hk hkl HCC
          go_wp2_with fail
          go_loopw [13] (fun v wr => ∃ r : Nat, r ≤ 16 ∧ v = .int .i64 r ∧ OF2 A k g9 g10 l X Y w wr) (fun v _ => 16 - (intOf v).toNat)
          case atStart => exact ⟨0, by omega, rfl, HF3.out⟩
          case round =>
            obtain ⟨r, hr, rfl, hf⟩ := hrel
            clear HF3
            have HF3 := hide hf
            clear hf
            by_cases hlr : r < 16
            · have cx := blk_reg HF3.out.bx HXL.out hlr
              have cy := blk_reg HF3.out.by_ HYL.out hlr
              have hri : (r : Int) < 16 := by omega
              cases hq : ((r : Int) != s)
              · go_wp2_with fail
                go_quiet (fail)
                go_wp2
                go_roundw
                case measure => simp [intOf]; omega
                case rel => exact ⟨r + 1, by omega, by go_num, HF3.out.drewN _⟩
              · have hov := HSAME.out r hlr (by simpa using hq)
                obtain ⟨v, hv⟩ : ∃ v, valF Y r = v := ⟨_, rfl⟩
                rw [hov, hv] at cx
                rw [hv] at cy
                clear hov hv
                go_wp2_with fail
                go_quiet (fail)
                go_wp2
                go_roundw
                case measure => simp [intOf]; omega
                case rel => exact ⟨r + 1, by omega, by go_num, HF3.out.drewN _⟩
            · obtain rfl : r = 16 := by omega
              go_wp2_with fail
              refine (wakes_any _).mono ?_
              rintro e w5 ⟨rfl, hb⟩
              replace HF3 := hide (HF3.out.step hb)
              clear hb
              go_wp2
              go_ret
              exact ⟨rfl, HF3.out.below⟩
    · have hw0 : runO l s = [] := HNL.out he
      rw [hw0]
      have be : (er != 0) = true := by simpa using he
      clear he
      rcases HOR.out with h | h | ⟨h, hmay⟩
      · subst h; cases be
      · subst h
        go_wp2_with fail
        refine (wakes_any _).mono ?_
        rintro e w4 ⟨rfl, hb⟩
        replace HF := hide (HF.out.step hb)
        clear hb
        go_wp2
        go_ret
        exact ⟨rfl, HF.out.below⟩
      · subst h
        go_wp2_with fail
        refine (may_any A n c l s _ HF.out.mvs (by omega)).mono ?_
        rintro e w3 ⟨rfl, hb⟩
        replace HF := hide (HF.out.step hb)
        clear hb
        rw [hmay]
        go_wp2_with fail
        refine (wakes_any _).mono ?_
        rintro e w4 ⟨rfl, hb⟩
        replace HF := hide (HF.out.step hb)
        clear hb
        go_wp2
        go_ret
        exact ⟨rfl, HF.out.below⟩
  · go_wp2_with fail
    refine (wakes_any _).mono ?_
    rintro e w4 ⟨rfl, hb⟩
    replace HF := hide (HF.out.step hb)
    clear hb
    go_wp2
    go_ret
    exact ⟨rfl, HF.out.below⟩
theorem once_row (A : Option Addr) (n c : Nat) (l : List Mv) (s : Int) (R : List Int) (hs : (Lit.int .i8 s).wf = true) (hR : R.length = 16) (hU : ∀ x ∈ R, U64 x) (w : World) (hh : MvsAt w w.heap.size A n l) (hm : n < 9223372036854775808) :
    Calls Try.prog 6 #[.slice A n c, .int .i8 s, .agg (uC R).toArray] w fun e w' => e = .returned (.bool true) ∧ Below w.heap.size w w' :=
  oncelaw_walk A n c l s R w (by have := bounds_i8 hs; unfold I8; omega) hR hU hh hm
end Go.Proofs.Ytdnibhcpbdjhlaa
