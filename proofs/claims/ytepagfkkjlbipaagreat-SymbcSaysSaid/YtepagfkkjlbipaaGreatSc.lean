/-
  latheref03.Target, Check, Args: where an instruction leads, whether a program may be, the document's. Conditions: those written in each statement.
-/
import Derived.Test.YtepagfkkjlbipaaGreatSb
import Derived.Test.YtepagfkkjlbipaaGreatKai
namespace Go.Proofs.YtepagfkkjlbipaaGreat
open Go.RowKit
set_option linter.unusedVariables false
set_option linter.unusedSimpArgs false
set_option maxRecDepth 100000 in
set_option maxHeartbeats 2000000 in
theorem rtarget_any (i : Int) (x : ID) (w : World) : Calls Tryz.prog 31 #[.int .i64 i, .agg x.cells.toArray] w (TgtP i x w) := by
 obtain ⟨k, op, wd, sz, br, dst, src, off, imm⟩ := x
 show Calls Tryz.prog 31 #[.int .i64 i, .agg #[.int .i8 k, .int .i8 op, .int .i8 wd, .int .i8 sz, .bool br, .int .i8 dst, .int .i8 src, .int .i64 off, .int .i64 imm]] w _
 by_cases h3 : k = 3 ∨ k = 4
 ·cases t0 : decide (i < -1099511627776)
  ·cases t1 : decide (1099511627776 < i)
   ·cases t2 : decide (off < -1099511627776)
    ·cases t3 : decide (1099511627776 < off)
     ·have h1 : inB i (-1099511627776) 1099511627776 = true := by rw [inB_iff]; simp at t0 t1; omega
      have h2 : inB off (-1099511627776) 1099511627776 = true := by rw [inB_iff]; simp at t2 t3; omega
      obtain ⟨i0, i1⟩ := inB_iff.1 h1
      obtain ⟨o0, o1⟩ := inB_iff.1 h2
      have hT : tgtB i ⟨k, op, wd, sz, br, dst, src, off, imm⟩ = true := by unfold tgtB; rw [h1, h2]; rcases h3 with rfl | rfl <;> simp
      have hN : tgtN i ⟨k, op, wd, sz, br, dst, src, off, imm⟩ = i + 1 + off := by unfold tgtN; rw [hT]; rfl
      have HT := hide hT
      have HN := hide hN
      clear hT hN h1 h2
      rcases h3 with rfl | rfl
      all_goals
       go_enter Tryz.func31, Tryz.ntmps31
       go_wp2
       go_ret2
       exact ⟨by rw [HN.out, HT.out]; rfl, (Below.refl _ _).alloc (Nat.le_refl _) _⟩
     ·have h1 : inB off (-1099511627776) 1099511627776 = false := by rw [inB_no]; simp at t3; omega
      have hT : tgtB i ⟨k, op, wd, sz, br, dst, src, off, imm⟩ = false := by unfold tgtB; rw [h1]; simp
      have HT := hide hT
      clear hT h1
      rcases h3 with rfl | rfl
      all_goals
       go_enter Tryz.func31, Tryz.ntmps31
       go_wp2
       go_ret2
       exact ⟨by rw [tgt_no HT.out, HT.out]; rfl, (Below.refl _ _).alloc (Nat.le_refl _) _⟩
    ·have h1 : inB off (-1099511627776) 1099511627776 = false := by rw [inB_no]; simp at t2; omega
     have hT : tgtB i ⟨k, op, wd, sz, br, dst, src, off, imm⟩ = false := by unfold tgtB; rw [h1]; simp
     have HT := hide hT
     clear hT h1
     rcases h3 with rfl | rfl
     all_goals
      go_enter Tryz.func31, Tryz.ntmps31
      go_wp2
      go_ret2
      exact ⟨by rw [tgt_no HT.out, HT.out]; rfl, (Below.refl _ _).alloc (Nat.le_refl _) _⟩
   ·have h1 : inB i (-1099511627776) 1099511627776 = false := by rw [inB_no]; simp at t1; omega
    have hT : tgtB i ⟨k, op, wd, sz, br, dst, src, off, imm⟩ = false := by unfold tgtB; rw [h1]; simp
    have HT := hide hT
    clear hT h1
    rcases h3 with rfl | rfl
    all_goals
     go_enter Tryz.func31, Tryz.ntmps31
     go_wp2
     go_ret2
     exact ⟨by rw [tgt_no HT.out, HT.out]; rfl, (Below.refl _ _).alloc (Nat.le_refl _) _⟩
  ·have h1 : inB i (-1099511627776) 1099511627776 = false := by rw [inB_no]; simp at t0; omega
   have hT : tgtB i ⟨k, op, wd, sz, br, dst, src, off, imm⟩ = false := by unfold tgtB; rw [h1]; simp
   have HT := hide hT
   clear hT h1
   rcases h3 with rfl | rfl
   all_goals
    go_enter Tryz.func31, Tryz.ntmps31
    go_wp2
    go_ret2
    exact ⟨by rw [tgt_no HT.out, HT.out]; rfl, (Below.refl _ _).alloc (Nat.le_refl _) _⟩
 ·have hT : tgtB i ⟨k, op, wd, sz, br, dst, src, off, imm⟩ = false := by unfold tgtB; simp only [Bool.and_eq_false_iff]; left; left; simp; omega
  have HT := hide hT
  have b3 : (k != 3) = true := by rw [bne_iff_ne]; omega
  have b4 : (k != 4) = true := by rw [bne_iff_ne]; omega
  clear hT h3
  go_enter Tryz.func31, Tryz.ntmps31
  go_wp2
  go_ret2
  exact ⟨by rw [tgt_no HT.out, HT.out]; rfl, (Below.refl _ _).alloc (Nat.le_refl _) _⟩
set_option maxRecDepth 100000 in
set_option maxHeartbeats 4000000 in
theorem rcheck_any (c : Int) (A : Option Addr) (n cap : Nat) (l : List ID) (w : World) (hh : InsAt w w.heap.size A n l) (hc : n ≤ cap) (hm : n < 9223372036854775808) :
  Calls Tryz.prog 21 #[.agg #[.int .i64 c, .slice A n cap]] w (ChkP c l w) := by
 have hl := hide hh.1
 have HH := hide hh
 clear hh
 cases t0 : decide (c < 0)
 ·cases t1 : decide (256 < c)
  ·have h1 : inB c 0 256 = true := by rw [inB_iff]; simp at t0 t1; omega
   by_cases h2 : 1 ≤ n ∧ n ≤ 64
   ·have h2' := hide (show inB ((l.length : Int) - 1) 0 63 = true by rw [hl.out, inB_iff]; omega)
    have h1' := hide h1
    have hn1 : 1 ≤ n := h2.1
    have hn2 : n ≤ 64 := h2.2
    clear h1 h2
    go_enter Tryz.func21, Tryz.ntmps21
    go_wp2
    go_loopw [5] (fun i wr => CkRel c l w A n (.slice A n cap) i wr) (fun i _ => n - (intOf i).toNat)
    case atStart => exact ⟨0, by omega, rfl, by omega, HH.out.alloc (Nat.le_refl _) _, by simp, (Below.refl _ _).alloc (Nat.le_refl _) _, by simp⟩
    case round =>
     obtain ⟨k, hk, rfl, hok, hat, hc0, hbel, hsz⟩ := hrel
     have HB := hide hbel
     have HOK := hide hok
     have HAT := hide hat
     clear hbel hok hat
     by_cases hlt : k < n
     ·obtain ⟨ad, x, rfl, hab, hx, hxw, hcell⟩ := HAT.out.at_ hlt
      have HX := hide hx
      have HC := hide hcell
      have HW := hide hxw
      clear hx hcell hxw
      obtain ⟨mb, hmb⟩ : ∃ b, mayB x = b := ⟨_, rfl⟩
      obtain ⟨tb, htb⟩ : ∃ b, tgtB k x = b := ⟨_, rfl⟩
      obtain ⟨tn, htn⟩ : ∃ b, tgtN k x = b := ⟨_, rfl⟩
      have HMB := hide hmb
      have HTB := hide htb
      have HTN := hide htn
      clear hmb htb htn
      go_wp2_with (first
       | (refine wpList_load_at rfl 47 (.tmp 33) rfl (ad.add (k * 9)) rfl x.cells _ HC.out Tryz.underlying47 rfl sizI ?_)
       | fail)
      refine (rmay_any x _ HW.out).mono ?_
      rintro e w2 ⟨rfl, hb⟩
      rw [HMB.out]
      have hc2 : w2.cell? ⟨w.heap.size, 1, none⟩ = some (.slice (some ad) n cap) := (hb.cell (p := ⟨w.heap.size, 1, none⟩) hsz).trans hc0
      have HAT2 := hide (HAT.out.below (hb.mono (Nat.le_of_lt hsz)))
      have HB2 := hide (HB.out.trans (hb.mono (Nat.le_of_lt hsz)))
      have hsz2 : w.heap.size < w2.heap.size := Nat.lt_of_lt_of_le hsz hb.size
      have HC2 := hide (fun j u hu => (hb.cell (p := (ad.add (k * 9)).add j) (by rw [block_of_add, block_of_add]; omega)).trans (HC.out j u hu) : ∀ j u, x.cells[j]? = some u → w2.cell? ((ad.add (k * 9)).add j) = some u)
      clear hb hc0 HAT HB HC
      cases mb
      ·go_wp2
       go_ret2
       have hbad : okAt n k x = false := by unfold okAt; rw [HMB.out]; rfl
       have hp := chk_bad (c := c) h1'.out h2'.out HX.out (by rw [hl.out]; exact HOK.out) (by rw [hl.out]; exact hbad)
       rw [HMB.out] at hp
       exact ⟨by rw [hp]; rfl, HB2.out⟩
      ·go_wp2_with (first
        | (refine wpList_load_at rfl 47 (.tmp 43) rfl (ad.add (k * 9)) rfl x.cells _ HC2.out Tryz.underlying47 rfl sizI ?_)
        | fail)
       refine (rtarget_any k x _).mono ?_
       rintro e w3 ⟨rfl, hb⟩
       rw [HTB.out, HTN.out]
       have hc3 : w3.cell? ⟨w.heap.size, 1, none⟩ = some (.slice (some ad) n cap) := (hb.cell (p := ⟨w.heap.size, 1, none⟩) hsz2).trans hc2
       have HAT3 := hide (HAT2.out.below (hb.mono (Nat.le_of_lt hsz2)))
       have HB3 := hide (HB2.out.trans (hb.mono (Nat.le_of_lt hsz2)))
       have hsz3 : w.heap.size < w3.heap.size := Nat.lt_of_lt_of_le hsz2 hb.size
       clear hb hc2 HAT2 HB2 HC2
       have hcs : tb = false ∨ (tb = true ∧ decide (tn < 0) = true) ∨ (tb = true ∧ decide (tn < 0) = false ∧ decide ((n : Int) ≤ tn) = true) ∨ (tb = true ∧ decide (tn < 0) = false ∧ decide ((n : Int) ≤ tn) = false) := by cases tb <;> cases decide (tn < 0) <;> cases decide ((n : Int) ≤ tn) <;> simp
       rcases hcs with rfl | ⟨rfl, q1⟩ | ⟨rfl, q1, q2⟩ | ⟨rfl, q1, q2⟩
       all_goals
        go_wp2
        first
         | (go_ret2
            have hbad : okAt n k x = false := by
             unfold okAt
             rw [HMB.out, HTB.out, HTN.out]
             have : inB tn 0 ((n : Int) - 1) = false := by rw [inB_no]; first | (simp at q1 q2; omega) | (simp at q1; omega)
             rw [this]; rfl
            have hp := chk_bad (c := c) h1'.out h2'.out HX.out (by rw [hl.out]; exact HOK.out) (by rw [hl.out]; exact hbad)
            rw [HMB.out] at hp
            exact ⟨by rw [hp]; rfl, HB3.out⟩)
         | (have hgood : okAt n k x = true := by
              unfold okAt
              rw [HMB.out]
              first
               | (rw [HTB.out]; rfl)
               | (rw [HTB.out, HTN.out, show inB tn 0 ((n : Int) - 1) = true by rw [inB_iff]; simp at q1 q2; omega]; rfl)
            have HGD := hide hgood
            clear hgood
            go_roundw
            case measure => simp [intOf]; omega
            case rel =>
             refine ⟨k + 1, by omega, by go_num, fun j y hj hy => ?_, HAT3.out, hc3, HB3.out, hsz3⟩
             rcases Nat.lt_or_ge j k with h | h
             ·exact HOK.out j y h hy
             ·obtain rfl : j = k := by omega
              have := HX.out
              rw [hy] at this
              obtain rfl := Option.some.inj this
              exact HGD.out)
     ·obtain rfl : k = n := by omega
      have hk1 : k - 1 < k := by omega
      obtain ⟨ad, x, rfl, hab, hx, hxw, hcell⟩ := HAT.out.at_ hk1
      have hlast : lastK l = x.kind := by unfold lastK; rw [hl.out, hx]; rfl
      have hp := chk_end (c := c) h1'.out h2'.out (fun i y hy => by rw [hl.out]; exact HOK.out i y (by have := (List.getElem?_eq_some_iff.1 hy).1; have := hl.out; omega) hy)
      rw [hlast, hl.out] at hp
      have HP := hide hp
      have hkc : wr.cell? (ad.add ((k - 1) * 9)) = some (.int .i8 x.kind) := by
       have := hcell 0 _ rfl
       simpa [add_of_add] using this
      clear hcell hlast hp hx hxw hlt
      generalize hki : x.kind = ki at hkc ⊢
      rw [hki] at HP
      clear hki
      cases h4 : (ki != 4)
      all_goals
       cases h6 : (ki != 6)
       all_goals
        go_wp2
        go_ret2
        refine ⟨?_, HB.out⟩
        rw [HP.out]
        simp at h4 h6
        first
         | (rw [if_pos ⟨h4, h6⟩]; rfl)
         | (rw [if_neg (by simp [h4, h6])]; rfl)
   ·have hp := chk_long (c := c) (l := l) h1 (by rw [hl.out, inB_no]; omega)
    have HP := hide hp
    have hn : n < 1 ∨ 64 < n := by omega
    clear hp h1 h2
    rcases hn with hn | hn
    ·obtain rfl : n = 0 := by omega
     go_enter Tryz.func21, Tryz.ntmps21
     go_wp2
     go_ret2
     exact ⟨by rw [HP.out]; rfl, (Below.refl _ _).alloc (Nat.le_refl _) _⟩
    ·have hd0 : decide ((n : Int) < 1) = false := by simp; omega
     have hd1 : decide ((64 : Int) < (n : Int)) = true := by simp; omega
     go_enter Tryz.func21, Tryz.ntmps21
     go_wp2
     go_ret2
     exact ⟨by rw [HP.out]; rfl, (Below.refl _ _).alloc (Nat.le_refl _) _⟩
  ·have hp := chk_ctx (c := c) (l := l) (by rw [inB_no]; simp at t1; omega)
   have HP := hide hp
   clear hp
   go_enter Tryz.func21, Tryz.ntmps21
   go_wp2
   go_ret2
   exact ⟨by rw [HP.out]; rfl, (Below.refl _ _).alloc (Nat.le_refl _) _⟩
 ·have hp := chk_ctx (c := c) (l := l) (by rw [inB_no]; simp at t0; omega)
  have HP := hide hp
  clear hp
  go_enter Tryz.func21, Tryz.ntmps21
  go_wp2
  go_ret2
  exact ⟨by rw [HP.out]; rfl, (Below.refl _ _).alloc (Nat.le_refl _) _⟩
end Go.Proofs.YtepagfkkjlbipaaGreat
