/-
  latheref25.Check: the same hints may be. Conditions: those written in each statement.
-/
import Derived.Test.YtmnokkomhgpmmaaLa
import Derived.Test.YtmnokkomhgpmmaaEq
namespace Go.Proofs.Ytmnokkomhgpmmaa
open Go.RowKit
set_option linter.unusedVariables false
set_option linter.unusedSimpArgs false
theorem okP : eqOk Try.prog 4 31 = true := by kernel_rfl
theorem flatP : flatK Try.prog 4 31 = some [some .i8, some .i8] := by kernel_rfl
theorem aggP : aggT Try.prog 31 = true := by kernel_rfl
theorem all2 {a b : Int} (h : I8 a ∧ I8 b) : AllK [some .i8, some .i8] [.int .i8 a, .int .i8 b] := by
  refine ⟨rfl, fun i k v hk hv => ?_⟩
  rcases i with _ | _ | i
  · simp at hk hv; subst hk hv; exact ⟨a, rfl, wf_i8 h.1⟩
  · simp at hk hv; subst hk hv; exact ⟨b, rfl, wf_i8 h.2⟩
  · simp at hk
theorem eq_place {a b c d : Int} (h : I8 a ∧ I8 b) (g : I8 c ∧ I8 d) (w : World) :
    (binOp .eql 31 (.agg #[.int .i8 a, .int .i8 b]) (.agg #[.int .i8 c, .int .i8 d])).run Try.prog w = .ok (.bool ((a, b) == (c, d))) w := by
  have := run_eql_flat (P := Try.prog) (by decide) flatP okP aggP (all2 h) (all2 g) w
  rw [this]
  congr 2
  simp [eqL, eqV]
  rw [Bool.eq_iff_iff]
  simp
theorem eq_place_ex {p : Int × Int} {c d : Int} (h : I8 p.1 ∧ I8 p.2) (g : I8 c ∧ I8 d) : ∃ b : Bool, Hid (b = true ↔ p = (c, d)) ∧ ∀ W : World,
    (binOp .eql 31 (.agg #[.int .i8 p.1, .int .i8 p.2]) (.agg #[.int .i8 c, .int .i8 d])).run Try.prog W = .ok (.bool b) W :=
  ⟨(p.1, p.2) == (c, d), hide (by simp [Prod.ext_iff]), fun W => eq_place h g W⟩
theorem pl_cells {w : World} {g j : Nat} {t : TypeId} {x : HD} {p : Int × Int} (hb : Blk w g t x.cells.toArray) (hj : j < x.pl.length) (hp : plD x.pl j = p) :
    w.cell? ⟨g, 1 + j * 2, none⟩ = some (.int .i8 p.1) ∧ w.cell? ⟨g, 1 + j * 2 + 1, none⟩ = some (.int .i8 p.2) := by
  have h := plD_at hj hp
  have h0 := flat_at (fun p : Int × Int => [Value.int .i8 p.1, .int .i8 p.2]) 2 x.pl (fun x _ => rfl) j 0 p _ h rfl
  have h1 := flat_at (fun p : Int × Int => [Value.int .i8 p.1, .int .i8 p.2]) 2 x.pl (fun x _ => rfl) j 1 p _ h rfl
  have c0 := hb.cell (1 + j * 2)
  have c1 := hb.cell (1 + j * 2 + 1)
  simp only [HD.cells, List.getElem?_toArray] at c0 c1
  rw [show 1 + j * 2 = (j * 2 + 0) + 1 by omega, List.getElem?_cons_succ] at c0
  rw [show 1 + j * 2 + 1 = (j * 2 + 1) + 1 by omega, List.getElem?_cons_succ] at c1
  refine ⟨?_, ?_⟩
  · rw [show 1 + j * 2 = (j * 2 + 0) + 1 by omega, c0]; exact h0
  · rw [show 1 + j * 2 + 1 = (j * 2 + 1) + 1 by omega, c1]; exact h1
theorem pl_range {w : World} {g o : Nat} {a b : Value} (h0 : w.cell? ⟨g, o, none⟩ = some a) (h1 : w.cell? ⟨g, o + 1, none⟩ = some b) : ∀ (q : Nat) (u : Value), [a, b][q]? = some u → w.cell? ((⟨g, o, none⟩ : Addr).add q) = some u := by
  intro q u hu
  rw [show (⟨g, o, none⟩ : Addr).add q = ⟨g, o + q, none⟩ from by unfold Addr.add; split <;> simp_all]
  rcases q with _ | _ | q
  · simp at hu; subst hu; exact h0
  · simp at hu; subst hu; exact h1
  · simp at hu
theorem place_yes {pa pb s : Int} (h : placeB pa pb s = true) : (pa = 0 ∧ pb = 0) ∨ (pa = 1 ∧ 0 ≤ pb ∧ pb < 16 ∧ (pb == 4) = false) ∨ (pa = 2 ∧ 0 ≤ pb ∧ 8 * pb < s) := by
  unfold placeB at h
  by_cases h0 : pa = 0
  · rw [if_pos h0] at h; simp at h; exact .inl ⟨h0, h⟩
  · rw [if_neg h0] at h
    by_cases h1 : pa = 1
    · rw [if_pos h1] at h
      simp only [Bool.and_eq_true, decide_eq_true_eq] at h
      exact .inr (.inl ⟨h1, h.1.1, h.1.2, by have := h.2; simpa using this⟩)
    · rw [if_neg h1] at h
      by_cases h2 : pa = 2
      · rw [if_pos h2] at h
        simp only [Bool.and_eq_true, decide_eq_true_eq] at h
        exact .inr (.inr ⟨h2, h.1, by omega⟩)
      · rw [if_neg h2] at h; cases h
theorem place_no {pa pb s : Int} (h : placeB pa pb s = false) : (pa = 0 ∧ (pb != 0) = true) ∨ (pa = 1 ∧ pb < 0) ∨ (pa = 1 ∧ 16 ≤ pb) ∨ (pa = 1 ∧ pb = 4) ∨ (pa = 2 ∧ pb < 0) ∨ (pa = 2 ∧ 0 ≤ pb ∧ s ≤ 8 * pb) ∨ ((pa == 0) = false ∧ (pa == 1) = false ∧ (pa == 2) = false) := by
  unfold placeB at h
  by_cases h0 : pa = 0
  · rw [if_pos h0] at h; exact .inl ⟨h0, by simpa using h⟩
  · rw [if_neg h0] at h
    by_cases h1 : pa = 1
    · rw [if_pos h1] at h
      by_cases a : pb < 0
      · exact .inr (.inl ⟨h1, a⟩)
      · by_cases b : 16 ≤ pb
        · exact .inr (.inr (.inl ⟨h1, b⟩))
        · refine .inr (.inr (.inr (.inl ⟨h1, ?_⟩)))
          simp at h
          omega
    · rw [if_neg h1] at h
      by_cases h2 : pa = 2
      · rw [if_pos h2] at h
        by_cases a : pb < 0
        · exact .inr (.inr (.inr (.inr (.inl ⟨h2, a⟩))))
        · refine .inr (.inr (.inr (.inr (.inr (.inl ⟨h2, by omega, ?_⟩)))))
          simp at h
          omega
      · exact .inr (.inr (.inr (.inr (.inr (.inr ⟨by simpa using h0, by simpa using h1, by simpa using h2⟩)))))
def RNRel (s : Int) (x : HD) (p : Int × Int) (hs : List HD) (W : World) (A : Option Addr) (n c g g2 j : Nat) (i : Value) (wr : World) : Prop :=
  ∃ q : Nat, q ≤ j ∧ i = .int .i64 q ∧ (∀ r, r < q → ¬ (p.1 ≠ 0 ∧ plD x.pl r = p)) ∧ Blk wr g 34 x.cells.toArray ∧ Blk wr g2 31 #[.int .i8 p.1, .int .i8 p.2] ∧ HintsAt wr W.heap.size A n hs ∧ wr.cell? ⟨W.heap.size, 0, none⟩ = some (.int .i64 s) ∧ wr.cell? ⟨W.heap.size, 1, none⟩ = some (.slice A n c) ∧ Below W.heap.size W wr
theorem pok_dup {s : Int} {l : List (Int × Int)} {j r : Nat} {p : Int × Int} (hr : r < j) (hj : j < l.length) (h0 : p.1 ≠ 0) (hp : plD l j = p) (hpr : plD l r = p) : pOk s l j = false := by
  have h1 := plD_at (l := l) (j := r) (by omega) hpr
  unfold pOk
  rw [hp]
  have : (l.take j).contains p = true := by
    rw [List.contains_iff_mem]
    exact List.mem_of_getElem? (i := r) (by rw [List.getElem?_take, if_pos hr]; exact h1)
  rw [this]
  simp [h0]
theorem pok_nodup {s : Int} {l : List (Int × Int)} {j : Nat} {p : Int × Int} (hj : j < l.length) (hp : plD l j = p) (hpl : placeB p.1 p.2 s = true) (h : ∀ r, r < j → ¬ (p.1 ≠ 0 ∧ plD l r = p)) : pOk s l j = true := by
  unfold pOk
  rw [hp, hpl]
  simp only [Bool.true_and, Bool.not_eq_true', Bool.and_eq_false_iff]
  by_cases h0 : p.1 = 0
  · left; simp [h0]
  · right
    rw [Bool.eq_false_iff]
    intro hc
    rw [List.contains_iff_mem] at hc
    obtain ⟨r, hr, hrp⟩ := List.getElem_of_mem hc
    have hrj : r < j := by have := hr; rw [List.length_take] at this; omega
    refine h r hrj ⟨h0, ?_⟩
    rw [List.getElem_take] at hrp
    rw [plD, List.getD_eq_getElem?_getD, List.getElem?_eq_getElem (by omega), hrp]
    rfl
def RCRel (s : Int) (hs : List HD) (W : World) (A : Option Addr) (n c : Nat) (i : Value) (wr : World) : Prop :=
  ∃ k : Nat, k ≤ n ∧ i = .int .i64 k ∧ (∀ j x, j < k → hs[j]? = some x → hOk s x = true) ∧ HintsAt wr W.heap.size A n hs ∧ wr.cell? ⟨W.heap.size, 0, none⟩ = some (.int .i64 s) ∧ wr.cell? ⟨W.heap.size, 1, none⟩ = some (.slice A n c) ∧ Below W.heap.size W wr ∧ W.heap.size < wr.heap.size
def RMRel (s : Int) (x : HD) (hs : List HD) (W : World) (A : Option Addr) (n c g : Nat) (i : Value) (wr : World) : Prop :=
  ∃ j : Nat, j ≤ 11 ∧ i = .int .i64 j ∧ (∀ q, q < j → pOk s x.pl q = true) ∧ Blk wr g 34 x.cells.toArray ∧ HintsAt wr W.heap.size A n hs ∧ wr.cell? ⟨W.heap.size, 0, none⟩ = some (.int .i64 s) ∧ wr.cell? ⟨W.heap.size, 1, none⟩ = some (.slice A n c) ∧ Below W.heap.size W wr
set_option maxRecDepth 100000 in
set_option maxHeartbeats 16000000 in
theorem rcheck_any (s : Int) (A : Option Addr) (n c : Nat) (hs : List HD) (w : World) (hh : HintsAt w w.heap.size A n hs) (hc : n ≤ c) (hm : n < 9223372036854775808) :
    Calls Try.prog 14 #[.agg #[.int .i64 s, .slice A n c]] w fun e w' => e = .returned (.int .i64 (errC (chkB s hs))) ∧ Below w.heap.size w w' := by
  have hl := hide hh.1
  obtain ⟨iH, hiH, hzH, hsH, _⟩ := info_parts infH
  have IH := hide (And.intro hiH (And.intro hzH hsH))
  clear hiH hzH hsH
  obtain ⟨iP, hiP, hzP, hsP, _⟩ := info_parts infP
  have IP := hide (And.intro hiP (And.intro hzP hsP))
  clear hiP hzP hsP
  by_cases h0 : 0 ≤ s ∧ s ≤ 88
  · obtain ⟨h0, h1⟩ := h0
    by_cases h8 : s % 8 = 0
    · have b7 : (s % 8 != 0) = false := by rw [h8]; rfl
      have H8 := hide h8
      clear h8
      by_cases hn : 0 < n ∧ n ≤ 65
      · obtain ⟨hn0, hn1⟩ := hn
        have HH := hide hh
        clear hh
        go_enter Try.func14, Try.ntmps14
        go_wp2
        go_loopw [3] (fun i wr => RCRel s hs w A n c i wr) (fun i _ => n - (intOf i).toNat)
        case atStart => exact ⟨0, by omega, rfl, by omega, HH.out.alloc (Nat.le_refl _) _, by simp, by simp, (Below.refl _ _).alloc (Nat.le_refl _) _, by simp⟩
        case round =>
          obtain ⟨k, hk, rfl, hok, hat, hc0, hc1, hbel, hsz⟩ := hrel
          have HB := hide hbel
          have HOK := hide hok
          clear hbel hok
          by_cases hlt : k < n
          · obtain ⟨ad, x, rfl, hab, hx, hxw, hcell⟩ := hat.at_ hlt
            have HX := hide hx
            have HAT := hide hat
            have HC := hide hcell
            have HW := hide hxw
            clear hx hat hcell hxw
            by_cases ha : 0 ≤ x.at_ ∧ x.at_ < 16384
            · obtain ⟨ha0, ha1⟩ := ha
              go_wp2_with (first
                | (refine wpList_load_at rfl 34 (.tmp 44) rfl (ad.add (k * 23)) rfl x.cells _ HC.out Try.underlying34 rfl (by rw [HD.cells_len HW.out, IH.out.1]; simp [IH.out.2.2]) ?_)
                | (refine wpList_new rfl rfl 34 (.tmp 4) (.tmp 45) rfl rfl iH _ (.agg x.cells.toArray) x.cells.toArray IH.out.1 IH.out.2.1 (by rw [IH.out.2.2]; rfl) rfl (by rw [IH.out.2.2]; simpa using HD.cells_len HW.out) (HD.one x) (by rfl) (by rfl) ?_
                   intro w1 g1 G1 X1 L1
                   have q1 : w1.cell? ⟨g1, 0, none⟩ = some (.int .i64 x.at_) := by simpa [HD.cells] using X1.cell 0
                   have d0 : w1.cell? ⟨w.heap.size, 0, none⟩ = some (.int .i64 s) := (L1.cell (p := ⟨w.heap.size, 0, none⟩) hsz).trans hc0
                   have d1 : w1.cell? ⟨w.heap.size, 1, none⟩ = some (.slice (some ad) n c) := (L1.cell (p := ⟨w.heap.size, 1, none⟩) hsz).trans hc1
                   have HAT1 := hide (HAT.out.below (L1.mono (Nat.le_of_lt hsz)))
                   have HB1 := hide (HB.out.trans (L1.mono (Nat.le_of_lt hsz)))
                   have HX1 := hide X1
                   clear X1 L1))
              obtain ⟨wo, rfl⟩ : ∃ wo : World, wo = wr := ⟨_, rfl⟩
              go_loopw [5] (fun i wq => RMRel s x hs w (some ad) n c g1 i wq) (fun i _ => 11 - (intOf i).toNat)
              case atStart => exact ⟨0, by omega, rfl, by omega, HX1.out, HAT1.out, d0, d1, HB1.out⟩
              case round =>
                obtain ⟨j, hj, rfl, hpo, hblk, hatq, hcq, hcq1, hbq⟩ := hrel
                have HPO := hide hpo
                have HBK := hide hblk
                have HATq := hide hatq
                have HBq := hide hbq
                clear hpo hblk hatq hbq q1 d0 d1 HAT1 HB1 HX1 hc0 hc1 HAT HC HB
                have szq := HBq.out.size
                by_cases hlj : j < 11
                · have hxl : j < x.pl.length := by rw [HW.out.2.1]; exact hlj
                  obtain ⟨pp, hpp⟩ : ∃ p, plD x.pl j = p := ⟨_, rfl⟩
                  have HV := hide (HW.out.2.2 pp (List.mem_of_getElem? (plD_at hxl hpp)))
                  have HPP := hide hpp
                  clear hpp
                  obtain ⟨pa, pb⟩ := pp
                  have hW0 : w.heap.size < wr.heap.size := World.block_lt_of_cell? wr ⟨w.heap.size, 0, none⟩ hcq
                  obtain ⟨e0, e1⟩ := pl_cells HBK.out hxl HPP.out
                  have HPC := hide (pl_range e0 e1)
                  clear e0 e1
                  obtain ⟨v0, v1⟩ := HV.out
                  unfold I8 at v0 v1
                  cases hpl : placeB pa pb s
                  · have HPL := hide hpl
                    have hcase := place_no hpl
                    clear hpl
                    rcases hcase with ⟨rfl, hx0⟩ | ⟨rfl, hx0⟩ | ⟨rfl, hx0⟩ | ⟨rfl, rfl⟩ | ⟨rfl, hx0⟩ | ⟨rfl, hx0, hx1⟩ | ⟨hx0, hx1, hx2⟩
                    all_goals
                      go_wp2_with (first
                        | (refine wpList_load_at rfl 31 (.tmp 60) rfl ⟨g1, 1 + j * 2, none⟩ rfl [.int .i8 _, .int .i8 _] _ HPC.out Try.underlying31 rfl (by rw [IP.out.1]; simp [IP.out.2.2]) ?_))
                      go_ret
                      exact ⟨ret_i (by rw [chk_no_h HX.out (hok_no hlj (by unfold pOk; rw [HPP.out]; dsimp only; rw [HPL.out]; rfl))]; rfl), HBq.out.alloc (Nat.le_of_lt hW0) _⟩
                  · have HPL := hide hpl
                    have hcase := place_yes hpl
                    clear hpl
                    rcases hcase with ⟨rfl, rfl⟩ | ⟨rfl, hx0, hx1, hx2⟩ | ⟨rfl, hx0, hx1⟩
                    all_goals
                      go_wp2_with (first
                        | (refine wpList_load_at rfl 31 (.tmp 60) rfl ⟨g1, 1 + j * 2, none⟩ rfl [.int .i8 _, .int .i8 _] _ HPC.out Try.underlying31 rfl (by rw [IP.out.1]; simp [IP.out.2.2]) ?_)
                        | (refine wpList_new rfl rfl 31 (.tmp 6) (.tmp 61) rfl rfl iP _ (.agg #[.int .i8 _, .int .i8 _]) #[.int .i8 _, .int .i8 _] IP.out.1 IP.out.2.1 (by rw [IP.out.2.2]; first | done | rfl) rfl (by rw [IP.out.2.2]; first | done | rfl) (one2 _ _ _) (by rfl) (by rfl) ?_
                           intro w3 g3 G3 X3 L3
                           have c30 := X3.cell 0
                           have c31 := X3.cell 1
                           simp at c30 c31
                           have hc3 : w3.cell? ⟨w.heap.size, 0, none⟩ = some (.int .i64 s) := (L3.cell (p := ⟨w.heap.size, 0, none⟩) hW0).trans hcq
                           have hc31 : w3.cell? ⟨w.heap.size, 1, none⟩ = some (.slice (some ad) n c) := (L3.cell (p := ⟨w.heap.size, 1, none⟩) hW0).trans hcq1
                           have HX3 := hide X3
                           have HB3 := hide (HBq.out.trans (L3.mono szq))
                           have HAT3 := hide (HATq.out.below (L3.mono szq))
                           have HBK3 := hide (HBK.out.below L3 HBK.out.lt)
                           clear X3 L3))
                    all_goals
                      obtain ⟨wp, rfl⟩ : ∃ wp : World, wp = wr := ⟨_, rfl⟩
                      go_loopw [7] (fun i wq => RNRel s x (_, _) hs w (some ad) n c g1 g3 j i wq) (fun i _ => j - (intOf i).toNat)
                      case atStart => exact ⟨0, by omega, rfl, by omega, HBK3.out, HX3.out, HAT3.out, hc3, hc31, HB3.out⟩
                      case round =>
                        obtain ⟨q, hq, rfl, hno, hbk, hx3, hatr, hcr, hcr1, hbr⟩ := hrel
                        have HNO := hide hno
                        have HBKr := hide hbk
                        have HX3r := hide hx3
                        have HATr := hide hatr
                        have HBr := hide hbr
                        clear hno hbk hx3 hatr hbr c30 c31 hc3 hc31 HX3 HB3 HAT3 HBK3
                        by_cases hqj : q < j
                        · have hqx : q < x.pl.length := by omega
                          obtain ⟨rr, hrr⟩ : ∃ p, plD x.pl q = p := ⟨_, rfl⟩
                          obtain ⟨f0, f1⟩ := pl_cells HBKr.out hqx hrr
                          have f2 := HX3r.out.cell 0
                          have f3 := HX3r.out.cell 1
                          simp at f2 f3
                          obtain ⟨dd, hdd, hE⟩ := eq_place_ex (HW.out.2.2 rr (List.mem_of_getElem? (plD_at hqx hrr))) HV.out
                          have HRR := hide hrr
                          clear hrr
                          obtain ⟨ra, rb⟩ := rr
                          dsimp only at f0 f1 hE
                          have hq11 : (q : Int) < 11 := by omega
                          have hq0 : (0 : Int) ≤ q := by omega
                          cases dd
                          all_goals
                            go_wp2_with fail
                            go_quiet (fail)
                            go_wp2
                          all_goals first
                            | (go_ret
                               exact ⟨ret_i (by rw [chk_no_h HX.out (hok_no hlj (pok_dup hqj hxl (by simp) HPP.out (HRR.out.trans (hdd.out.1 (by first | rfl | trivial)))))]; rfl), below_drewN HBr.out _⟩)
                            | (go_roundw
                               all_goals first
                                 | (simp [intOf]; omega)
                                 | (refine ⟨q + 1, by omega, by go_num, fun r hr => ?_, HBKr.out, HX3r.out, HATr.out, hcr, hcr1, below_drewN HBr.out _⟩
                                    rcases Nat.lt_or_ge r q with h | h
                                    · exact HNO.out r h
                                    · obtain rfl : r = q := by omega
                                      first
                                        | exact fun hh => absurd rfl hh.1
                                        | exact fun hh => absurd (hdd.out.2 (HRR.out.symm.trans hh.2)) (by simp)))
                        · obtain rfl : q = j := by omega
                          have hpk := pok_nodup hxl HPP.out HPL.out HNO.out
                          have HPK := hide hpk
                          clear hpk hq hqj
                          go_wp2
                          go_roundw
                          case measure => simp [intOf]; omega
                          case rel =>
                            refine ⟨q + 1, by omega, by go_num, fun r hr => ?_, HBKr.out, HATr.out, hcr, hcr1, HBr.out⟩
                            rcases Nat.lt_or_ge r q with h | h
                            · exact HPO.out r h
                            · obtain rfl : r = q := by omega
                              exact HPK.out
                · obtain rfl : j = 11 := by omega
                  clear hj hlj
                  go_wp2
                  go_roundw
                  case measure => simp [intOf]; omega
                  case rel =>
                    refine ⟨k + 1, by omega, by go_num, fun q y hq hy => ?_, HATq.out, hcq, hcq1, HBq.out, World.block_lt_of_cell? wr ⟨w.heap.size, 0, none⟩ hcq⟩
                    rcases Nat.lt_or_ge q k with h | h
                    · exact HOK.out q y h hy
                    · obtain rfl : q = k := by omega
                      have := HX.out
                      rw [hy] at this
                      obtain rfl := Option.some.inj this
                      exact hok_yes ha0 ha1 HPO.out
            · skip
              have HA := hide ha
              have hbad : chkB s hs = false := chk_no_h HX.out (by unfold hOk; rw [Bool.and_eq_false_iff]; left; simp; omega)
              have HBD := hide hbad
              clear ha hbad
              have hor : x.at_ < 0 ∨ (0 ≤ x.at_ ∧ 16384 ≤ x.at_) := by have := HA.out; omega
              rcases hor with hor | ⟨hor, hor2⟩
              all_goals
                go_wp2_with (first
                  | (refine wpList_load_at rfl 34 (.tmp 44) rfl (ad.add (k * 23)) rfl x.cells _ HC.out Try.underlying34 rfl (by rw [HD.cells_len HW.out, IH.out.1]; simp [IH.out.2.2]) ?_)
                  | (refine wpList_new rfl rfl 34 (.tmp 4) (.tmp 45) rfl rfl iH _ (.agg x.cells.toArray) x.cells.toArray IH.out.1 IH.out.2.1 (by rw [IH.out.2.2]; rfl) rfl (by rw [IH.out.2.2]; simpa using HD.cells_len HW.out) (HD.one x) (by rfl) (by rfl) ?_
                     intro w1 g1 G1 X1 L1
                     have q1 : w1.cell? ⟨g1, 0, none⟩ = some (.int .i64 x.at_) := by simpa [HD.cells] using X1.cell 0
                     have HB1 := hide (HB.out.trans (L1.mono (Nat.le_of_lt hsz)))
                     clear X1 L1))
                go_ret
                exact ⟨ret_i (by rw [HBD.out]; rfl), HB1.out⟩
          · obtain rfl : k = n := by omega
            clear hk hlt
            go_wp2
            go_ret
            exact ⟨ret_i (by rw [chk_yes hl.out h0 h1 H8.out hn0 hn1 HOK.out]; rfl), HB.out⟩
      · have HBD := hide (chk_head (s := s) (hs := hs) (fun h => hn (by have := hl.out; omega)))
        clear hh
        by_cases hn0 : 0 < n
        · have hn1 : ¬ n ≤ 65 := fun h => hn ⟨hn0, h⟩
          go_enter Try.func14, Try.ntmps14
          go_wp2
          go_ret
          exact ⟨ret_i (by rw [HBD.out]; rfl), (Below.refl _ _).alloc (Nat.le_refl _) _⟩
        · obtain rfl : n = 0 := by omega
          clear hn0 hn
          go_enter Try.func14, Try.ntmps14
          go_wp2
          go_ret
          exact ⟨ret_i (by rw [HBD.out]; rfl), (Below.refl _ _).alloc (Nat.le_refl _) _⟩
    · have HBD := hide (chk_head (s := s) (hs := hs) (fun h => h8 h.2.2.1))
      have b7 : (s % 8 != 0) = true := by simpa using h8
      clear hh h8
      go_enter Try.func14, Try.ntmps14
      go_wp2
      go_ret
      exact ⟨ret_i (by rw [HBD.out]; rfl), (Below.refl _ _).alloc (Nat.le_refl _) _⟩
  · have HBD := hide (chk_head (s := s) (hs := hs) (fun h => h0 ⟨h.1, h.2.1⟩))
    clear hh
    by_cases h1 : 0 ≤ s
    · have h2 : ¬ s ≤ 88 := fun h => h0 ⟨h1, h⟩
      go_enter Try.func14, Try.ntmps14
      go_wp2
      go_ret
      exact ⟨ret_i (by rw [HBD.out]; rfl), (Below.refl _ _).alloc (Nat.le_refl _) _⟩
    · go_enter Try.func14, Try.ntmps14
      go_wp2
      go_ret
      exact ⟨ret_i (by rw [HBD.out]; rfl), (Below.refl _ _).alloc (Nat.le_refl _) _⟩
end Go.Proofs.Ytmnokkomhgpmmaa
