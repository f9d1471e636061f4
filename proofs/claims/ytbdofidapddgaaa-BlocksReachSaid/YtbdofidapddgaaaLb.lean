/-
  The walk of BlocksReach: it answers true. Conditions: those written in each statement.
-/
import Derived.Test.YtbdofidapddgaaaLa
namespace Go.Proofs.Ytbdofidapddgaaa
open Go.RowKit
set_option linter.unusedVariables false
set_option linter.unusedSimpArgs false
theorem bef_asc {l : List BD} {b : Int} {k i : Nat} {z y : Int} (h1 : (befT l b k)[i]? = some z) (h2 : (befT l b k)[i + 1]? = some y) : z < y := by
  have hp : (befT l b k).Pairwise (· < ·) := by
    unfold befT
    rw [List.pairwise_map]
    exact (List.pairwise_lt_range (n := k)).filter _ |>.imp (fun h => by exact Int.ofNat_lt.2 h)
  obtain ⟨a1, a2⟩ := List.getElem?_eq_some_iff.1 h1
  obtain ⟨b1, b2⟩ := List.getElem?_eq_some_iff.1 h2
  rw [← a2, ← b2]
  exact List.pairwise_iff_getElem.1 hp i (i + 1) a1 b1 (by omega)
theorem bef_iff {l : List BD} {b : Int} {k : Nat} {y : Int} : y ∈ befT l b k ↔ ∃ i : Nat, i < k ∧ y = i ∧ hasN l b i = true := by
  unfold befT
  rw [List.mem_map]
  constructor
  · rintro ⟨i, hi, rfl⟩
    obtain ⟨h1, h2⟩ := List.mem_filter.1 hi
    exact ⟨i, List.mem_range.1 h1, rfl, h2⟩
  · rintro ⟨i, h1, rfl, h2⟩
    exact ⟨i, List.mem_filter.2 ⟨List.mem_range.2 h1, h2⟩, rfl⟩
theorem rt_last {l : List BD} : ∀ {k a c : Nat}, RtN l (k + 1) a c → ∃ i x y, RtN l k a i ∧ l[i]? = some x ∧ y ∈ x.next ∧ y.toNat = c
  | 0, a, c, ⟨x, y, h1, h2, h3⟩ => ⟨a, x, y, rfl, h1, h2, h3⟩
  | k + 1, a, c, ⟨x, y, h1, h2, h3⟩ => by
    obtain ⟨i, x', y', g1, g2, g3, g4⟩ := rt_last h3
    exact ⟨i, x', y', ⟨x, y, h1, h2, g1⟩, g2, g3, g4⟩
theorem IsR.ahead {l : List BD} {S : List Bool} (h : IsR l S) (hmy : mayL l = true) {b : Nat} (hb : S[b]? = some true) : b = 0 ∨ ∃ i : Nat, (i : Int) ∈ befT l b l.length ∧ S[i]? = some true := by
  obtain ⟨k, hk⟩ := h.sound b hb
  cases k with
  | zero => left; exact hk.symm
  | succ k =>
    right
    obtain ⟨i, x, y, h1, h2, h3, h4⟩ := rt_last hk
    have hy := next_in hmy h2 h3
    refine ⟨i, bef_iff.2 ⟨i, (List.getElem?_eq_some_iff.1 h2).1, rfl, ?_⟩, (h.rt i).2 ⟨k, h1⟩⟩
    unfold hasN
    rw [h2]
    have : y = (b : Int) := by omega
    rw [this] at h3
    simpa using h3
structure RF (A A4 : Option Addr) (n : Nat) (l : List BD) (S : List Bool) (w W : World) : Prop where
  blks : BksAt W W.heap.size A n l
  seen : Reads W W.heap.size 1 A4 n (bC S)
  below : Below w.heap.size w W
theorem RF.step {A A4 : Option Addr} {n : Nat} {l : List BD} {S : List Bool} {w W V : World} (h : RF A A4 n l S w W) (hb : Below W.heap.size W V) : RF A A4 n l S w V :=
  ⟨h.blks.up hb hb.size, (h.seen.below hb).more hb.size, h.below.trans (hb.mono h.below.size)⟩
theorem RF.cell {A A4 : Option Addr} {n : Nat} {l : List BD} {S : List Bool} {w W : World} (h : RF A A4 n l S w W) {i : Nat} {v : Bool} (hv : S[i]? = some v) (hi : i < n) : ∃ ad, A4 = some ad ∧ W.cell? (ad.add i) = some (.bool v) := by
  obtain ⟨ad, u, e, _, hu, hc⟩ := h.seen.at_ hi
  rw [bC_at hv] at hu
  injection hu with hu
  subst hu
  exact ⟨ad, e, hc⟩
def SmP (S : List Bool) (q : List Int) (b i : Nat) : Prop := b = 0 ∨ ∃ (t : Nat) (y : Int), t < i ∧ q[t]? = some y ∧ S[y.toNat]? = some true
theorem smp_next {S : List Bool} {q : List Int} {b i : Nat} {y : Int} (hy : q[i]? = some y) : SmP S q b (i + 1) ↔ SmP S q b i ∨ S[y.toNat]? = some true := by
  constructor
  · rintro (h | ⟨t, z, ht, hz, hs⟩)
    · exact .inl (.inl h)
    · by_cases e : t = i
      · subst e
        rw [hy] at hz
        obtain rfl := Option.some.inj hz
        exact .inr hs
      · exact .inl (.inr ⟨t, z, by omega, hz, hs⟩)
  · rintro ((h | ⟨t, z, ht, hz, hs⟩) | h)
    · exact .inl h
    · exact .inr ⟨t, z, by omega, hz, hs⟩
    · exact .inr ⟨i, y, by omega, hy, h⟩
def InP (q : List Int) (b : Int) (k : Nat) : Prop := ∃ (t : Nat), t < k ∧ q[t]? = some b
theorem inp_next {q : List Int} {b y : Int} {k : Nat} (hy : q[k]? = some y) : InP q b (k + 1) ↔ InP q b k ∨ y = b := by
  constructor
  · rintro ⟨t, ht, hz⟩
    by_cases e : t = k
    · subst e
      rw [hy] at hz
      exact .inr (Option.some.inj hz)
    · exact .inl ⟨t, by omega, hz⟩
  · rintro (⟨t, ht, hz⟩ | rfl)
    · exact ⟨t, by omega, hz⟩
    · exact ⟨k, by omega, hy⟩
set_option maxRecDepth 100000 in
set_option maxHeartbeats 16000000 in
theorem reach_walk (A : Option Addr) (n c : Nat) (l : List BD) (w : World) (hh : BksAt w w.heap.size A n l) (hm : n < 9223372036854775808) :
    Calls Try.prog 7 #[.slice A n c] w fun e w' => e = .returned (.bool true) ∧ Below w.heap.size w w' := by
  have HL := hide hh.len
  have HW := hide (fun (w1 : World) (hb : Below w.heap.size w w1) => (wakes_any w1).mono fun e w' h => (⟨h.1, hb.trans (h.2.mono hb.size)⟩ : e = .returned (.bool true) ∧ Below w.heap.size w w'))
  have HH := hide hh
  clear hh
  go_enter Try.func7, Try.ntmps7
  go_wp2_with fail
  refine (great_any A n c w.heap.size l _ HH.out hm).mono ?_
  rintro e w' ⟨rfl, rfl⟩
  cases hg : greatL l
  · clear hg
    go_wp2_with fail
    refine (dmay_any A n c w.heap.size l _ HH.out hm).mono ?_
    rintro e w1 ⟨rfl, hd⟩
    have HB1 := hide (dr_below hd w.heap.size)
    replace HH := hide (HH.out.up HB1.out HB1.out.size)
    clear hd
    cases hmy : mayL l
    · clear hmy
      go_wp2_with fail
      refine (HW.out _ HB1.out).mono ?_
      rintro e w12 ⟨rfl, hb⟩
      have HB := hide hb
      clear hb
      go_wp2
      go_ret
      exact ⟨rfl, HB.out⟩
    · have HM := hide hmy
      have hn64 : n ≤ 64 := by rw [← HL.out]; exact mayL_few hmy
      clear hmy
      by_cases hn0 : n = 0
      · subst hn0
        go_wp2_with fail
        refine (HW.out _ HB1.out).mono ?_
        rintro e w12 ⟨rfl, hb⟩
        have HB := hide hb
        clear hb
        go_wp2
        go_ret
        exact ⟨rfl, HB.out⟩
      · have hd : ((n : Int) == 0) = false := by simp; omega
        have hn1 : 0 < n := by omega
        have hn1' : (0 : Int) < (n : Int) := by omega
        go_wp2_with fail
        refine (reach_any A n c l _ HH.out hm).mono ?_
        rintro e w2 ⟨S, A4, c4, hif, rfl, hr, hb⟩
        rw [if_neg (by
          rintro (h | h)
          · exact hn0 (HL.out.symm.trans h)
          · rw [HM.out] at h; cases h)] at hif
        have HR := hide hif
        have hsl : S.length = n := by rw [hif.len, HL.out]
        rw [hsl] at hr ⊢
        have HF := hide (⟨HH.out.up hb hb.size, hr, HB1.out.trans (hb.mono HB1.out.size)⟩ : RF A A4 n l S w w2)
        have HSL := hide hsl
        obtain ⟨a4, rfl, cz⟩ := HF.out.cell hif.zero hn1
        rw [show a4.add 0 = a4 from rfl] at cz
        clear hif hr hb hsl HH HB1
        go_wp2_with fail
        go_loopw [4] (fun bv wq => ∃ b : Nat, b ≤ n ∧ bv = .int .i64 b ∧ RF A (some a4) n l S w wq) (fun bv _ => n - (intOf bv).toNat)
        case atStart => exact ⟨0, by omega, rfl, HF.out⟩
        case round =>
          obtain ⟨b, hbn, rfl, hf⟩ := hrel
          clear HF cz
          have HF := hide hf
          clear hf
          by_cases hlb : b < n
          · go_wp2_with fail
            refine (before_any A n c l b _ HF.out.blks hm).mono ?_
            rintro e w3 ⟨A5, c5, rfl, hnx, hb⟩
            replace HF := hide (HF.out.step hb)
            have hbl : befL l (b : Int) = befT l b n := by unfold befL; rw [HM.out, HL.out]; rfl
            rw [hbl] at hnx ⊢
            have hql := befT_len l b n
            obtain ⟨q, hq⟩ : ∃ v, befT l (b : Int) n = v := ⟨_, rfl⟩
            rw [hq] at hnx hql ⊢
            obtain ⟨m, hmq⟩ : ∃ v, q.length = v := ⟨_, rfl⟩
            rw [hmq] at hnx hql ⊢
            have HN := hide hnx
            have HQ := hide hq
            have HMQ := hide hmq
            clear hb hnx hbl hq hmq
            go_wp2_with fail
            obtain ⟨wo, rfl⟩ : ∃ wo : World, wo = w3 := ⟨_, rfl⟩
            go_loopw [6, 7] (fun sv iv wq => ∃ (i : Nat) (sb : Bool), i ≤ m ∧ iv = .int .i64 i ∧ sv = .bool sb ∧ Hid (sb = true ↔ SmP S q b i) ∧ RF A (some a4) n l S w wq ∧ NxAt wq wq.heap.size (.slice A5 m c5) q) (fun _ iv _ => m - (intOf iv).toNat)
            case atStart =>
              refine ⟨0, _, by omega, rfl, rfl, ?_, HF.out, HN.out⟩
              show Hid _
              refine hide ⟨fun h => .inl (by simp at h; omega), fun h => ?_⟩
              rcases h with h | ⟨t, y, h, _⟩
              · simp [h]
              · omega
            case round =>
              obtain ⟨i, sb, him, rfl, rfl, HS, hf, hnx⟩ := hrel
              clear HF HN
              have HF := hide hf
              have HN := hide hnx
              by_cases hli : i < m
              · obtain ⟨ad5, y, rfl, _, hy, hyi, hcy⟩ := hnx.at_ hli
                have HY := hide hy
                have HSN := hide (smp_next (S := S) (b := b) hy)
                have hym := befT_mem y (by rw [HQ.out]; exact List.mem_of_getElem? hy)
                obtain ⟨yn, rfl⟩ := Int.eq_ofNat_of_zero_le hym.1
                have hyn : yn < n := by omega
                have hyn' : (yn : Int) < (n : Int) := by omega
                have HFm := fun m => hide (HF.out.step (bel_dN m))
                have HNm := fun m => hide (HN.out.up (bel_dN (B := wr.heap.size) (w := wr) m) (Nat.le_refl _))
                obtain ⟨sy, hsy⟩ : ∃ v, S[yn]? = some v := ⟨_, List.getElem?_eq_getElem (by rw [HSL.out]; exact hyn)⟩
                obtain ⟨a4', ha4, csy⟩ := hf.cell hsy hyn
                injection ha4 with ha4
                subst ha4
                have HSY := hide hsy
                have HNX := hide (fun (v : Bool) (hv : v = true ↔ (sb = true ∨ sy = true)) => (by
                  rw [HSN.out, hv, HS.out, Int.toNat_natCast, HSY.out]
                  constructor
                  · rintro (h | h)
                    · exact .inl h
                    · exact .inr (by rw [h])
                  · rintro (h | h)
                    · exact .inl h
                    · exact .inr (Option.some.inj h) : v = true ↔ SmP S q b (i + 1)))
                clear hy hyi hym hsy hf hnx HSN
                have hd1 : decide ((yn : Int) < 0) = false := by simp
                have hd2 : decide ((n : Int) ≤ (yn : Int)) = false := by simp; omega
                rcases Nat.eq_zero_or_pos i with hi0 | hi0
                · have hd0 : decide ((0 : Int) < (i : Int)) = false := by simp; omega
                  have hd4 : decide (0 < i) = false := by simp; omega
                  clear hi0
                  cases sb
                  · cases sy
                    all_goals
                      go_wp2_with fail
                      refine wp_region_quiet_lit (by kernel_rfl) (by kernel_rfl) ?_
                      repeat (first | go_big_quiet_step (fail) | quiet_step (fail))
                      refine wpQuiet_nil ?_
                      intro wq hwq
                      obtain ⟨nq, rfl⟩ := hwq
                      have csy' : (wr.drewN nq).cell? (a4.add yn) = _ := csy
                      have hcy' : (wr.drewN nq).cell? _ = _ := hcy
                      go_wp2
                      go_roundw
                      case measure => simp [intOf]; omega
                      case rel => exact ⟨i + 1, _, by omega, by go_num, rfl, HNX.out _ (by simp), (HFm _).out, (HNm _).out⟩
                  · go_wp2_with fail
                    refine wp_region_quiet_lit (by kernel_rfl) (by kernel_rfl) ?_
                    repeat (first | go_big_quiet_step (fail) | quiet_step (fail))
                    refine wpQuiet_nil ?_
                    intro wq hwq
                    obtain ⟨nq, rfl⟩ := hwq
                    go_wp2
                    go_roundw
                    case measure => simp [intOf]; omega
                    case rel => exact ⟨i + 1, _, by omega, by go_num, rfl, HNX.out _ (by simp), (HFm _).out, (HNm _).out⟩
                · have hd0 : decide ((0 : Int) < (i : Int)) = true := by simp; omega
                  have hd4 : decide (0 < i) = true := by simp; omega
                  obtain ⟨ad6, z, hae, _, hz, _, hcz⟩ := HN.out.at_ (k := i - 1) (by omega)
                  injection hae with hae
                  subst hae
                  have hlt := bef_asc (l := l) (b := b) (k := n) (i := i - 1) (z := z) (y := (yn : Int)) (by rw [HQ.out]; exact hz) (by rw [HQ.out, show i - 1 + 1 = i by omega]; exact HY.out)
                  have hd3 : decide ((yn : Int) ≤ z) = false := by simp; omega
                  have hwr : IntKind.i64.wrap ((i : Int) - 1) = (i : Int) - 1 := IntWalk.i64_in _ (by omega)
                  have hp0 : 0 ≤ (i : Int) - 1 := by omega
                  have hp1 : (i : Int) - 1 < (m : Int) := by omega
                  have hti : ((i : Int) - 1).toNat = i - 1 := by omega
                  clear hz hlt hi0
                  cases sb
                  · cases sy
                    all_goals
                      go_wp2_with fail
                      refine wp_region_quiet_lit (by kernel_rfl) (by kernel_rfl) ?_
                      repeat (first | go_big_quiet_step (fail) | quiet_step (fail))
                      refine wpQuiet_nil ?_
                      intro wq hwq
                      obtain ⟨nq, rfl⟩ := hwq
                      have csy' : (wr.drewN nq).cell? (a4.add yn) = _ := csy
                      have hcy' : (wr.drewN nq).cell? _ = _ := hcy
                      go_wp2
                      go_roundw
                      case measure => simp [intOf]; omega
                      case rel => exact ⟨i + 1, _, by omega, by go_num, rfl, HNX.out _ (by simp), (HFm _).out, (HNm _).out⟩
                  · go_wp2_with fail
                    refine wp_region_quiet_lit (by kernel_rfl) (by kernel_rfl) ?_
                    repeat (first | go_big_quiet_step (fail) | quiet_step (fail))
                    refine wpQuiet_nil ?_
                    intro wq hwq
                    obtain ⟨nq, rfl⟩ := hwq
                    go_wp2
                    go_roundw
                    case measure => simp [intOf]; omega
                    case rel => exact ⟨i + 1, _, by omega, by go_num, rfl, HNX.out _ (by simp), (HFm _).out, (HNm _).out⟩
              · obtain rfl : i = m := by omega
                obtain ⟨sv, hsv⟩ : ∃ v, S[b]? = some v := ⟨_, List.getElem?_eq_getElem (by rw [HSL.out]; exact hlb)⟩
                obtain ⟨a4', ha4, csb⟩ := hf.cell hsv hlb
                injection ha4 with ha4
                subst ha4
                have HSV := hide hsv
                have HSB := hide (fun (e : sv = true) => (by
                  rw [e] at hsv
                  rw [HS.out]
                  rcases HR.out.ahead HM.out hsv with h | ⟨t, ht, hs⟩
                  · exact .inl h
                  · rw [HL.out, HQ.out] at ht
                    obtain ⟨j, hj, e2⟩ := List.getElem_of_mem ht
                    exact .inr ⟨j, t, by rw [← HMQ.out]; exact hj, by rw [List.getElem?_eq_getElem hj, e2], by simpa using hs⟩ : sb = true))
                clear hf hnx hsv HN HS
                obtain ⟨x, hx⟩ : ∃ x, l[b]? = some x := ⟨l[b]'(by rw [HL.out]; exact hlb), List.getElem?_eq_getElem _⟩
                have HX := hide hx
                obtain ⟨fr, tt, nx⟩ := x
                obtain ⟨mn, hmn⟩ : ∃ v, nx.length = v := ⟨_, rfl⟩
                have HMN := hide hmn
                clear hx hmn
                have hgo : sv = false ∨ (sv = true ∧ sb = true) := by
                  cases sv
                  · exact .inl rfl
                  · exact .inr ⟨rfl, HSB.out rfl⟩
                clear HSB
                rcases hgo with rfl | ⟨rfl, rfl⟩
                all_goals
                  go_wp2_with fail
                  obtain ⟨wo2, rfl⟩ : ∃ wo : World, wo = wr := ⟨_, rfl⟩
                  go_loopw [8] (fun iv wq => ∃ j : Nat, j ≤ mn ∧ iv = .int .i64 j ∧ RF A (some a4) n l S w wq) (fun iv _ => mn - (intOf iv).toNat)
                  case atStart => exact ⟨0, by omega, rfl, HF.out⟩
                  case round =>
                    obtain ⟨j, hj, rfl, hf⟩ := hrel
                    clear HF
                    have HF := hide hf
                    obtain ⟨ad, x', s, rfl, _, hx', _, hns, hcell⟩ := hf.blks.at_ hlb
                    obtain rfl : x' = ⟨fr, tt, nx⟩ := by
                      have := HX.out
                      rw [hx'] at this
                      exact Option.some.inj this
                    dsimp only at hns
                    obtain ⟨As, cs, rfl⟩ := hns.form
                    have e2 := hcell 2 _ rfl
                    obtain ⟨p, hp⟩ : ∃ p, ad.add (b * 3) = p := ⟨_, rfl⟩
                    rw [hp] at e2
                    simp [Addr.add] at e2
                    rw [HMN.out] at hns e2
                    have HNS := hide hns
                    have hml : mn < 9223372036854775808 := hns.len.2.2
                    clear hf hx' hcell hns csb
                    by_cases hlj : j < mn
                    · obtain ⟨ad3, y, rfl, _, hy, hyi, hcy⟩ := HNS.out.at_ hlj
                      have hyx := List.mem_of_getElem? hy
                      obtain ⟨hy0, hy1⟩ := next_in HM.out HX.out hyx
                      rw [HL.out] at hy1
                      obtain ⟨yn, rfl⟩ := Int.eq_ofNat_of_zero_le hy0
                      have hyn : yn < n := by omega
                      have hbl : befL l (yn : Int) = befT l yn n := by unfold befL; rw [HM.out, HL.out]; rfl
                      have hin : (b : Int) ∈ befT l (yn : Int) n := bef_iff.2 ⟨b, hlb, rfl, by unfold hasN; rw [HX.out]; simpa using hyx⟩
                      have HCL := hide (fun (e : S[b]? = some true) => (by simpa using HR.out.closed b _ e HX.out (yn : Int) hyx : S[yn]? = some true))
                      clear hy hyi hyx hy0
                      go_wp2_with fail
                      refine (before_any (some ad) n c l yn _ HF.out.blks hm).mono ?_
                      rintro e w6 ⟨A6, c6, rfl, hnx, hb⟩
                      have HF6 := hide (HF.out.step hb)
                      rw [hbl] at hnx ⊢
                      have hql2 := befT_len l (yn : Int) n
                      obtain ⟨q2, hq2⟩ : ∃ v, befT l (yn : Int) n = v := ⟨_, rfl⟩
                      rw [hq2] at hnx hin hql2 ⊢
                      obtain ⟨m2, hm2⟩ : ∃ v, q2.length = v := ⟨_, rfl⟩
                      rw [hm2] at hnx hql2 ⊢
                      have HN2 := hide hnx
                      have HIN := hide hin
                      have HM2 := hide hm2
                      clear hb hnx hbl hq2 hm2 hin e2 hcy
                      go_wp2_with fail
                      go_loop [10, 12] (fun bv kv => ∃ (k : Nat) (ib : Bool), k ≤ m2 ∧ kv = .int .i64 k ∧ bv = .bool ib ∧ Hid (ib = true ↔ InP q2 b k)) (fun _ kv => m2 - (intOf kv).toNat)
                      case atStart => exact ⟨0, false, by omega, rfl, rfl, hide ⟨(fun h => by cases h), (fun ⟨t, h, _⟩ => by omega)⟩⟩
                      case round =>
                        obtain ⟨k, ib, hk, rfl, rfl, HI⟩ := hrel
                        by_cases hlk : k < m2
                        · obtain ⟨ad7, z, rfl, _, hz, _, hcz⟩ := HN2.out.at_ hlk
                          have HNX := hide (inp_next (b := (b : Int)) hz)
                          clear hz
                          cases ib
                          · cases hzb : (z == (b : Int))
                            · have HNY := hide (show (false = true) ↔ InP q2 b (k + 1) by
                                rw [HNX.out, ← HI.out]
                                simp at hzb
                                simp [hzb])
                              go_wp2
                              go_round
                              case measure => simp [intOf]; omega
                              case rel => exact ⟨k + 1, false, by omega, by go_num, rfl, HNY.out⟩
                            · have HNY := hide (show (true = true) ↔ InP q2 b (k + 1) by
                                rw [HNX.out, ← HI.out]
                                simp at hzb
                                simp [hzb])
                              go_wp2
                              go_round
                              case measure => simp [intOf]; omega
                              case rel => exact ⟨k + 1, true, by omega, by go_num, rfl, HNY.out⟩
                          · have HNY := hide (show (true = true) ↔ InP q2 b (k + 1) by
                              rw [HNX.out, ← HI.out]
                              simp)
                            go_wp2
                            go_round
                            case measure => simp [intOf]; omega
                            case rel => exact ⟨k + 1, true, by omega, by go_num, rfl, HNY.out⟩
                        · obtain rfl : k = m2 := by omega
                          obtain rfl : ib = true := HI.out.2 (by
                            obtain ⟨t, ht, e⟩ := List.getElem_of_mem HIN.out
                            exact ⟨t, by rw [← HM2.out]; exact ht, by rw [List.getElem?_eq_getElem ht, e]⟩)
                          obtain ⟨b4, hb4, csb⟩ := HF6.out.cell HSV.out hlb
                          injection hb4 with hb4
                          subst hb4
                          clear HI
                          first
                            | (have hsy := HCL.out HSV.out
                               obtain ⟨b5, hb5, csy⟩ := HF6.out.cell hsy hyn
                               injection hb5 with hb5
                               subst hb5
                               clear hsy
                               go_wp2
                               go_roundw
                               case measure => simp [intOf]; omega
                               case rel => exact ⟨j + 1, by omega, by go_num, HF6.out⟩)
                            | (go_wp2
                               go_roundw
                               case measure => simp [intOf]; omega
                               case rel => exact ⟨j + 1, by omega, by go_num, HF6.out⟩)
                    · obtain rfl : j = mn := by omega
                      go_wp2
                      go_roundw
                      case measure => simp [intOf]; omega
                      case rel => exact ⟨b + 1, by omega, by go_num, HF.out⟩
          · obtain rfl : b = n := by omega
            go_wp2_with fail
            refine (HW.out _ HF.out.below).mono ?_
            rintro e w12 ⟨rfl, hb⟩
            have HB := hide hb
            clear hb
            go_wp2
            go_ret
            exact ⟨rfl, HB.out⟩
  · clear hg
    go_wp2_with fail
    refine (HW.out _ (Below.refl _ _)).mono ?_
    rintro e w12 ⟨rfl, hb⟩
    have HB := hide hb
    clear hb
    go_wp2
    go_ret
    exact ⟨rfl, HB.out⟩
end Go.Proofs.Ytbdofidapddgaaa
