/-
  Contract of norm.Cond. Conditions: those written in each statement.
-/
import Derived.Test.YtepagfkkjlbipaaGreatNq
import Derived.Test.YtepagfkkjlbipaaGreatKah
namespace Go.Proofs.YtepagfkkjlbipaaGreat
open Go.RowKit
set_option linter.unusedVariables false
set_option linter.unusedSimpArgs false
set_option maxRecDepth 100000
def flagV (b : Bool) : Int := if b = true then 1 else 0
theorem flagV_u64 (b : Bool) : U64 (flagV b) := by unfold flagV U64; cases b <;> simp
theorem flag_any (b : Bool) (w : World) : Calls Tryz.prog 100 #[.bool b] w fun e w' => e = .returned (.int .u64 (flagV b)) ∧ w = w' := by
 cases b
 ·go_enter Tryz.func100, Tryz.ntmps100
  go_wp2
  go_ret
  exact ⟨rfl, rfl⟩
 ·go_enter Tryz.func100, Tryz.ntmps100
  go_wp2
  go_ret
  exact ⟨rfl, rfl⟩
def turnedV (cc : Int) : Int := if cc = 2 then 4 else if cc = 3 then 5 else if cc = 6 then 8 else if cc = 7 then 9 else cc
def turnedB (cc : Int) : Bool := cc == 2 || (cc == 3 || (cc == 6 || cc == 7))
theorem turned_any (cc : Int) (w : World) : Calls Tryz.prog 138 #[.int .i8 cc] w fun e w' => e = .returned (.tuple #[.int .i8 (turnedV cc), .bool (turnedB cc)]) ∧ w = w' := by
 cases h2 : (cc == 2)
 rotate_left
 ·obtain rfl : cc = 2 := by simpa using h2
  go_enter Tryz.func138, Tryz.ntmps138
  go_wp2
  go_ret2
  exact ⟨rfl, rfl⟩
 cases h3 : (cc == 3)
 rotate_left
 ·obtain rfl : cc = 3 := by simpa using h3
  go_enter Tryz.func138, Tryz.ntmps138
  go_wp2
  go_ret2
  exact ⟨rfl, rfl⟩
 cases h6 : (cc == 6)
 rotate_left
 ·obtain rfl : cc = 6 := by simpa using h6
  go_enter Tryz.func138, Tryz.ntmps138
  go_wp2
  go_ret2
  exact ⟨rfl, rfl⟩
 cases h7 : (cc == 7)
 rotate_left
 ·obtain rfl : cc = 7 := by simpa using h7
  go_enter Tryz.func138, Tryz.ntmps138
  go_wp2
  go_ret2
  exact ⟨rfl, rfl⟩
 have e1 : turnedV cc = cc := by unfold turnedV; simp at h2 h3 h6 h7; simp [h2, h3, h6, h7]
 have e2 : turnedB cc = false := by unfold turnedB; simp [h2, h3, h6, h7]
 rw [e1, e2]
 clear e1 e2
 go_enter Tryz.func138, Tryz.ntmps138
 go_wp2
 go_ret2
 exact ⟨rfl, rfl⟩
def condT (cc x a b : Int) : TD := ⟨4, cc, x, 0, a, b, 0⟩
theorem condT_wf {cc x a b : Int} (ho : I8 cc) (hx : I8 x) (ha : I64 a) (hb : I64 b) : (condT cc x a b).wf := by unfold TD.wf I8 U64 I64 condT; unfold I8 at ho hx; unfold I64 at ha hb; dsimp only; exact ⟨by omega, ho, hx, by omega, ha, hb, by omega⟩
theorem build_cond (cc x a b : Int) (w : World) : (Instr.build 147 #[(0, .int .i8 4), (1, .int .i8 cc), (2, .int .i8 x), (4, .int .i64 a), (5, .int .i64 b)]).run Tryz.prog w = .ok (termV (condT cc x a b)) w := run_build w 147 _ _ (by kernel_rfl)
def swapB (cc : Int) (lf rt : Bool) (a b : Int) : Bool := (cc == 0 || (cc == 1 || cc == 10)) && (lf || (!rt && decide (b < a)))
def condL (rec : PS → Int → Int → Int → Option RS) (p : PS) (cc x a b : Int) : Option RS :=
 let s := atP p.T a
 let y := atP p.T b
 if (s.kind == 0 && y.kind == 0) = true then some (putR p (constT (flagV (holdsU cc x s.n y.n))))
 else if (a == b && cc != 10) = true then some (putR p (constT (flagV (holdsU cc x 0 0))))
 else if turnedB cc = true then rec p (turnedV cc) b a
 else if swapB cc (s.kind == 0) (y.kind == 0) a b = true then some (putR p (condT cc x b a))
 else some (putR p (condT cc x a b))
def condF : Nat → PS → Int → Int → Int → Int → Option RS
 | 0, _, _, _, _, _ => none
 | f + 1, p, cc, x, a, b =>
  if (hasB p.T a && hasB p.T b) = false then some (p, 0, 2)
  else if holdsOk cc x = false then some (p, 0, 2)
  else if (bothP p x a b).2.2.2 = 0 then condL (fun q o u v => condF f q o x u v) (bothP p x a b).1 cc x (bothP p x a b).2.1 (bothP p x a b).2.2.1 else some ((bothP p x a b).1, 0, (bothP p x a b).2.2.2)
theorem condF_succ (f : Nat) (p : PS) (cc x a b : Int) : condF (f + 1) p cc x a b = if (hasB p.T a && hasB p.T b) = false then some (p, 0, 2)
  else if holdsOk cc x = false then some (p, 0, 2)
  else if (bothP p x a b).2.2.2 = 0 then condL (fun q o u v => condF f q o x u v) (bothP p x a b).1 cc x (bothP p x a b).2.1 (bothP p x a b).2.2.1 else some ((bothP p x a b).1, 0, (bothP p x a b).2.2.2) := rfl
/-- Cond's contract, where the fuel reaches. -/
def CondC (base g f : Nat) : Prop := ∀ (cc x a b : Int) (ha : I64 a) (hb : I64 b) (F : Nat → Prop) (p : PS) (r : RS) (hO : condF f p cc x a b = some r) (W : World) (h : PoolAt W base F g p) (hbase : base ≤ W.heap.size),
 Calls Tryz.prog 82 #[.pointer (some ⟨g, 0, none⟩), .int .i8 cc, .int .i8 x, .int .i64 a, .int .i64 b] W (RetP base g F W r)
section
variable {base g : Nat}
set_option maxHeartbeats 8000000 in
theorem cond_step (f : Nat) (hIH : CondC base g f) : CondC base g (f + 1) := by
 intro cc x a b ha hb F p r hO W h hbase
 have HIH := hide hIH
 have HA := hide ha
 have HBI := hide hb
 have HB := hide hbase
 rw [condF_succ] at hO
 have HO := hide hO
 have HP := hide h
 clear hIH ha hb hbase hO h
 have hb1 := bl_alloc W (.cells #[.int .i64 a, .int .i64 b] 3)
 have HQ1 := hide (PG.of_below HP.out hb1)
 go_enter Tryz.func82, Tryz.ntmps82
 go_wp2_with fail
 refine (there_any [a, b] _ 2 2 _ HQ1.out.pool (reads_list W 3 [.int .i64 a, .int .i64 b] 2 rfl) rfl (Nat.le_refl _) (by omega)).mono ?_
 rintro e W2 ⟨rfl, hb⟩
 have HQ2 := hide (HQ1.out.step hb)
 clear hb hb1 HQ1
 have HALL := hide (show ([a, b].all (hasB p.T)) = (hasB p.T a && hasB p.T b) by simp)
 rw [HALL.out]
 cases hh : (hasB p.T a && hasB p.T b)
 ·have hO := HO.out
  rw [if_pos hh] at hO
  injection hO with hO
  subst hO
  simp only [Bool.false_eq_true, if_false]
  go_wp2
  go_ret2
  exact RetP.same HQ2.out
 ·have hO := HO.out
  rw [if_neg (by rw [hh]; simp)] at hO
  have HO2 := hide hO
  simp only [if_true]
  clear hO HO
  cases hd : holdsOk cc x
  ·have hO := HO2.out
   rw [if_pos hd] at hO
   injection hO with hO
   subst hO
   have HD := hide hd
   clear hd
   go_wp2_with fail
   refine (holds_no 0 0 _ HD.out).mono ?_
   rintro e W3 ⟨rfl, rfl⟩
   go_wp2
   go_ret2
   exact RetP.same HQ2.out
  ·have hO := HO2.out
   rw [if_neg (by rw [hd]; simp)] at hO
   have HO3 := hide hO
   have HD := hide hd
   clear hO HO2 hd
   have HXW := hide (holdsOk_yes HD.out).1
   have HCC := hide (holdsOk_yes HD.out).2
   go_wp2_with fail
   refine (holds_yes 0 0 _ HD.out).mono ?_
   rintro e W3 ⟨rfl, rfl⟩
   obtain ⟨h00, hh00⟩ : ∃ v, holdsU cc x 0 0 = v := ⟨_, rfl⟩
   rw [hh00]
   have H00 := hide hh00
   clear hh00
   go_upto_region 8 with fail
   have hb4 := bl_alloc W2 (.cells #[.pointer (some ⟨g, 0, none⟩)] 125)
   have HQ4 := hide (HQ2.out.step hb4)
   have H15 := hide (Own1.new HQ2.out.pool 125 (.pointer (some ⟨g, 0, none⟩)))
   obtain ⟨b15, hb15⟩ : ∃ b, W2.heap.size = b := ⟨_, rfl⟩
   rw [hb15] at H15 ⊢
   clear hb4 HQ2 hb15
   generalize W2.alloc (.cells #[.pointer (some ⟨g, 0, none⟩)] 125) = W4 at HQ4 H15 ⊢
   have c15 := H15.out.1.cell 0
   simp at c15
   go_wp2_with fail
   refine (both_any x a b HXW.out _ HQ4.out.pool (Nat.le_trans HB.out HQ4.out.size)).mono ?_
   rintro e W5 ⟨rfl, F1, hp1⟩
   have HQ5 := hide (HQ4.out.trans hp1)
   have H155 := hide (H15.out.pg hp1)
   obtain ⟨q, hq⟩ : ∃ q, bothP p x a b = q := ⟨_, rfl⟩
   rw [hq] at HO3 HQ5 ⊢
   have HI := hide (show I64 q.2.1 ∧ I64 q.2.2.1 from hq ▸ both_i64 HP.out.wf HP.out.rng HA.out HBI.out x)
   obtain ⟨p1, a1, b1, er⟩ := q
   clear hp1 hq c15 HQ4 H15
   dsimp only at HO3 HQ5 HI ⊢
   cases her : (er == 0)
   ·have hO := HO3.out
    rw [if_neg (by simpa using her)] at hO
    injection hO with hO
    subst hO
    go_wp2
    go_ret2
    exact RetP.same HQ5.out
   ·have hO := HO3.out
    rw [if_pos (by simpa using her)] at hO
    obtain ⟨sA, hsA⟩ : ∃ s, atP p1.T a1 = s := ⟨_, rfl⟩
    obtain ⟨sB, hsB⟩ : ∃ s, atP p1.T b1 = s := ⟨_, rfl⟩
    unfold condL at hO
    rw [hsA, hsB] at hO
    dsimp only at hO
    have HO4 := hide hO
    have HSA := hide hsA
    have HSB := hide hsB
    clear hO HO3 hsA hsB
    have c15 := H155.out.1.cell 0
    simp at c15
    go_wp2_with fail
    refine (constant_any a1 _ HQ5.out.pool).mono ?_
    rintro e W7 ⟨rfl, hb⟩
    have HQ7 := hide (HQ5.out.step hb)
    have H157 := hide (H155.out.below hb)
    clear hb HQ5 H155 c15
    rw [HSA.out]
    have c15 := H157.out.1.cell 0
    simp at c15
    go_wp2_with fail
    refine (constant_any b1 _ HQ7.out.pool).mono ?_
    rintro e W9 ⟨rfl, hb⟩
    have HQ9 := hide (HQ7.out.step hb)
    clear hb HQ7 H157 c15
    rw [HSB.out]
    have hbs : base ≤ W9.heap.size := Nat.le_trans HB.out HQ9.out.size
    obtain ⟨lf, hlf⟩ : ∃ v, (sA.kind == 0) = v := ⟨_, rfl⟩
    obtain ⟨rt, hrt⟩ : ∃ v, (sB.kind == 0) = v := ⟨_, rfl⟩
    rw [hlf, hrt] at HO4 ⊢
    clear hlf hrt
    cases lf
    ·skip
     cases rt
     ·skip
      cases hab : (a1 == b1)
      ·skip
       have HAB := hide hab
       go_wp2_with fail
       refine (turned_any cc _).mono ?_
       rintro e W10 ⟨rfl, rfl⟩
       cases ht : turnedB cc
       rotate_left
       ·skip
        have hO := HO4.out
        rw [if_neg (by simp), if_neg (by rw [HAB.out]; simp), if_pos ht] at hO
        have HREC := hide hO
        clear hO
        go_wp2_with fail
        refine (HIH.out (turnedV cc) x b1 a1 HI.out.2 HI.out.1 F1 p1 r HREC.out _ HQ9.out.pool hbs).mono ?_
        rintro e W12 ⟨rfl, hr⟩
        have HR := hide hr
        clear hr
        go_wp2
        go_ret2
        exact RetP.from HQ9.out ⟨rfl, HR.out⟩
       ·skip
        have HT := hide ht
        clear ht
        go_upto_region 21 with fail
        go_cut [133] from 112 to 132 (fun sv wc => sv = .bool (swapB cc false false a1 b1) ∧ wc = W9)
        case first =>
         cases h0 : (cc == 0)
         rotate_left
         ·skip
          cases hlt : decide (b1 < a1)
          ·skip
           go_wp2
           go_meet
           case rel => exact ⟨by rw [show swapB cc false false a1 b1 = false by unfold swapB; rw [hlt]; simp [h0]], rfl⟩
          ·skip
           go_wp2
           go_meet
           case rel => exact ⟨by rw [show swapB cc false false a1 b1 = true by unfold swapB; rw [hlt]; simp [h0]], rfl⟩
         cases h1 : (cc == 1)
         rotate_left
         ·skip
          cases hlt : decide (b1 < a1)
          ·skip
           go_wp2
           go_meet
           case rel => exact ⟨by rw [show swapB cc false false a1 b1 = false by unfold swapB; rw [hlt]; simp [h0, h1]], rfl⟩
          ·skip
           go_wp2
           go_meet
           case rel => exact ⟨by rw [show swapB cc false false a1 b1 = true by unfold swapB; rw [hlt]; simp [h0, h1]], rfl⟩
         cases h10 : (cc == 10)
         rotate_left
         ·skip
          cases hlt : decide (b1 < a1)
          ·skip
           go_wp2
           go_meet
           case rel => exact ⟨by rw [show swapB cc false false a1 b1 = false by unfold swapB; rw [hlt]; simp [h0, h1, h10]], rfl⟩
          ·skip
           go_wp2
           go_meet
           case rel => exact ⟨by rw [show swapB cc false false a1 b1 = true by unfold swapB; rw [hlt]; simp [h0, h1, h10]], rfl⟩
         go_wp2
         go_meet
         case rel => exact ⟨by rw [show swapB cc false false a1 b1 = false by unfold swapB; simp [h0, h1, h10]], rfl⟩
        case rest =>
         obtain ⟨rfl, rfl⟩ := hcut
         cases hsw : swapB cc false false a1 b1
         ·skip
          have hO := HO4.out
          rw [if_neg (by simp), if_neg (by rw [HAB.out]; simp), if_neg (by rw [HT.out]; simp), if_neg (by rw [hsw]; simp)] at hO
          injection hO with hO
          subst hO
          clear hsw
          have HWF := hide (condT_wf (by unfold I8; have := HCC.out; omega : I8 cc) (by unfold I8; have := HXW.out; omega : I8 x) HI.out.1 HI.out.2)
          have qb := fun (w : World) => build_cond cc x a1 b1 w
          go_wp2_with fail
          refine (put_r _ HWF.out _ HQ9.out.pool hbs).mono ?_
          rintro e W12 ⟨rfl, hr⟩
          have HR := hide hr
          clear hr
          go_wp2
          go_ret2
          exact RetP.from HQ9.out ⟨rfl, HR.out⟩
         ·skip
          have hO := HO4.out
          rw [if_neg (by simp), if_neg (by rw [HAB.out]; simp), if_neg (by rw [HT.out]; simp), if_pos hsw] at hO
          injection hO with hO
          subst hO
          clear hsw
          have HWF := hide (condT_wf (by unfold I8; have := HCC.out; omega : I8 cc) (by unfold I8; have := HXW.out; omega : I8 x) HI.out.2 HI.out.1)
          have qb := fun (w : World) => build_cond cc x b1 a1 w
          go_wp2_with fail
          refine (put_r _ HWF.out _ HQ9.out.pool hbs).mono ?_
          rintro e W12 ⟨rfl, hr⟩
          have HR := hide hr
          clear hr
          go_wp2
          go_ret2
          exact RetP.from HQ9.out ⟨rfl, HR.out⟩
      ·skip
       cases hcc10 : (cc == 10)
       ·skip
        have hn10 : (cc != 10) = true := by simp only [bne, hcc10]; rfl
        have hO := HO4.out
        rw [if_neg (by simp), if_pos (by rw [hab, hn10]; rfl), H00.out] at hO
        injection hO with hO
        subst hO
        go_wp2_with fail
        refine (flag_any h00 _).mono ?_
        rintro e W10 ⟨rfl, rfl⟩
        go_wp2_with fail
        refine (const_any _ (flagV_u64 _) _ HQ9.out.pool hbs).mono ?_
        rintro e W11 ⟨rfl, hr⟩
        have HR := hide hr
        clear hr
        go_wp2
        go_ret2
        exact RetP.from HQ9.out ⟨rfl, HR.out⟩
       ·skip
        have hn10 : (cc != 10) = false := by simp only [bne, hcc10]; rfl
        have HAB := hide (And.intro hab hn10)
        go_wp2_with fail
        refine (turned_any cc _).mono ?_
        rintro e W10 ⟨rfl, rfl⟩
        cases ht : turnedB cc
        rotate_left
        ·skip
         have hO := HO4.out
         rw [if_neg (by simp), if_neg (by rw [HAB.out.1, HAB.out.2]; simp), if_pos ht] at hO
         have HREC := hide hO
         clear hO
         go_wp2_with fail
         refine (HIH.out (turnedV cc) x b1 a1 HI.out.2 HI.out.1 F1 p1 r HREC.out _ HQ9.out.pool hbs).mono ?_
         rintro e W12 ⟨rfl, hr⟩
         have HR := hide hr
         clear hr
         go_wp2
         go_ret2
         exact RetP.from HQ9.out ⟨rfl, HR.out⟩
        ·skip
         have HT := hide ht
         clear ht
         go_upto_region 21 with fail
         go_cut [133] from 112 to 132 (fun sv wc => sv = .bool (swapB cc false false a1 b1) ∧ wc = W9)
         case first =>
          cases h0 : (cc == 0)
          rotate_left
          ·skip
           cases hlt : decide (b1 < a1)
           ·skip
            go_wp2
            go_meet
            case rel => exact ⟨by rw [show swapB cc false false a1 b1 = false by unfold swapB; rw [hlt]; simp [h0]], rfl⟩
           ·skip
            go_wp2
            go_meet
            case rel => exact ⟨by rw [show swapB cc false false a1 b1 = true by unfold swapB; rw [hlt]; simp [h0]], rfl⟩
          cases h1 : (cc == 1)
          rotate_left
          ·skip
           cases hlt : decide (b1 < a1)
           ·skip
            go_wp2
            go_meet
            case rel => exact ⟨by rw [show swapB cc false false a1 b1 = false by unfold swapB; rw [hlt]; simp [h0, h1]], rfl⟩
           ·skip
            go_wp2
            go_meet
            case rel => exact ⟨by rw [show swapB cc false false a1 b1 = true by unfold swapB; rw [hlt]; simp [h0, h1]], rfl⟩
          cases h10 : (cc == 10)
          rotate_left
          ·skip
           cases hlt : decide (b1 < a1)
           ·skip
            go_wp2
            go_meet
            case rel => exact ⟨by rw [show swapB cc false false a1 b1 = false by unfold swapB; rw [hlt]; simp [h0, h1, h10]], rfl⟩
           ·skip
            go_wp2
            go_meet
            case rel => exact ⟨by rw [show swapB cc false false a1 b1 = true by unfold swapB; rw [hlt]; simp [h0, h1, h10]], rfl⟩
          exact absurd hcc10 (by rw [h10]; simp)
         case rest =>
          obtain ⟨rfl, rfl⟩ := hcut
          cases hsw : swapB cc false false a1 b1
          ·skip
           have hO := HO4.out
           rw [if_neg (by simp), if_neg (by rw [HAB.out.1, HAB.out.2]; simp), if_neg (by rw [HT.out]; simp), if_neg (by rw [hsw]; simp)] at hO
           injection hO with hO
           subst hO
           clear hsw
           have HWF := hide (condT_wf (by unfold I8; have := HCC.out; omega : I8 cc) (by unfold I8; have := HXW.out; omega : I8 x) HI.out.1 HI.out.2)
           have qb := fun (w : World) => build_cond cc x a1 b1 w
           go_wp2_with fail
           refine (put_r _ HWF.out _ HQ9.out.pool hbs).mono ?_
           rintro e W12 ⟨rfl, hr⟩
           have HR := hide hr
           clear hr
           go_wp2
           go_ret2
           exact RetP.from HQ9.out ⟨rfl, HR.out⟩
          ·skip
           have hO := HO4.out
           rw [if_neg (by simp), if_neg (by rw [HAB.out.1, HAB.out.2]; simp), if_neg (by rw [HT.out]; simp), if_pos hsw] at hO
           injection hO with hO
           subst hO
           clear hsw
           have HWF := hide (condT_wf (by unfold I8; have := HCC.out; omega : I8 cc) (by unfold I8; have := HXW.out; omega : I8 x) HI.out.2 HI.out.1)
           have qb := fun (w : World) => build_cond cc x b1 a1 w
           go_wp2_with fail
           refine (put_r _ HWF.out _ HQ9.out.pool hbs).mono ?_
           rintro e W12 ⟨rfl, hr⟩
           have HR := hide hr
           clear hr
           go_wp2
           go_ret2
           exact RetP.from HQ9.out ⟨rfl, HR.out⟩
     ·skip
      cases hab : (a1 == b1)
      ·skip
       have HAB := hide hab
       go_wp2_with fail
       refine (turned_any cc _).mono ?_
       rintro e W10 ⟨rfl, rfl⟩
       cases ht : turnedB cc
       rotate_left
       ·skip
        have hO := HO4.out
        rw [if_neg (by simp), if_neg (by rw [HAB.out]; simp), if_pos ht] at hO
        have HREC := hide hO
        clear hO
        go_wp2_with fail
        refine (HIH.out (turnedV cc) x b1 a1 HI.out.2 HI.out.1 F1 p1 r HREC.out _ HQ9.out.pool hbs).mono ?_
        rintro e W12 ⟨rfl, hr⟩
        have HR := hide hr
        clear hr
        go_wp2
        go_ret2
        exact RetP.from HQ9.out ⟨rfl, HR.out⟩
       ·skip
        have HT := hide ht
        clear ht
        go_upto_region 21 with fail
        go_cut [133] from 112 to 132 (fun sv wc => sv = .bool (swapB cc false true a1 b1) ∧ wc = W9)
        case first =>
         cases h0 : (cc == 0)
         rotate_left
         ·skip
          go_wp2
          go_meet
          case rel => exact ⟨by rw [show swapB cc false true a1 b1 = false by unfold swapB; simp [h0]], rfl⟩
         cases h1 : (cc == 1)
         rotate_left
         ·skip
          go_wp2
          go_meet
          case rel => exact ⟨by rw [show swapB cc false true a1 b1 = false by unfold swapB; simp [h0, h1]], rfl⟩
         cases h10 : (cc == 10)
         rotate_left
         ·skip
          go_wp2
          go_meet
          case rel => exact ⟨by rw [show swapB cc false true a1 b1 = false by unfold swapB; simp [h0, h1, h10]], rfl⟩
         go_wp2
         go_meet
         case rel => exact ⟨by rw [show swapB cc false true a1 b1 = false by unfold swapB; simp [h0, h1, h10]], rfl⟩
        case rest =>
         obtain ⟨rfl, rfl⟩ := hcut
         cases hsw : swapB cc false true a1 b1
         ·skip
          have hO := HO4.out
          rw [if_neg (by simp), if_neg (by rw [HAB.out]; simp), if_neg (by rw [HT.out]; simp), if_neg (by rw [hsw]; simp)] at hO
          injection hO with hO
          subst hO
          clear hsw
          have HWF := hide (condT_wf (by unfold I8; have := HCC.out; omega : I8 cc) (by unfold I8; have := HXW.out; omega : I8 x) HI.out.1 HI.out.2)
          have qb := fun (w : World) => build_cond cc x a1 b1 w
          go_wp2_with fail
          refine (put_r _ HWF.out _ HQ9.out.pool hbs).mono ?_
          rintro e W12 ⟨rfl, hr⟩
          have HR := hide hr
          clear hr
          go_wp2
          go_ret2
          exact RetP.from HQ9.out ⟨rfl, HR.out⟩
         ·skip
          have hO := HO4.out
          rw [if_neg (by simp), if_neg (by rw [HAB.out]; simp), if_neg (by rw [HT.out]; simp), if_pos hsw] at hO
          injection hO with hO
          subst hO
          clear hsw
          have HWF := hide (condT_wf (by unfold I8; have := HCC.out; omega : I8 cc) (by unfold I8; have := HXW.out; omega : I8 x) HI.out.2 HI.out.1)
          have qb := fun (w : World) => build_cond cc x b1 a1 w
          go_wp2_with fail
          refine (put_r _ HWF.out _ HQ9.out.pool hbs).mono ?_
          rintro e W12 ⟨rfl, hr⟩
          have HR := hide hr
          clear hr
          go_wp2
          go_ret2
          exact RetP.from HQ9.out ⟨rfl, HR.out⟩
      ·skip
       cases hcc10 : (cc == 10)
       ·skip
        have hn10 : (cc != 10) = true := by simp only [bne, hcc10]; rfl
        have hO := HO4.out
        rw [if_neg (by simp), if_pos (by rw [hab, hn10]; rfl), H00.out] at hO
        injection hO with hO
        subst hO
        go_wp2_with fail
        refine (flag_any h00 _).mono ?_
        rintro e W10 ⟨rfl, rfl⟩
        go_wp2_with fail
        refine (const_any _ (flagV_u64 _) _ HQ9.out.pool hbs).mono ?_
        rintro e W11 ⟨rfl, hr⟩
        have HR := hide hr
        clear hr
        go_wp2
        go_ret2
        exact RetP.from HQ9.out ⟨rfl, HR.out⟩
       ·skip
        have hn10 : (cc != 10) = false := by simp only [bne, hcc10]; rfl
        have HAB := hide (And.intro hab hn10)
        go_wp2_with fail
        refine (turned_any cc _).mono ?_
        rintro e W10 ⟨rfl, rfl⟩
        cases ht : turnedB cc
        rotate_left
        ·skip
         have hO := HO4.out
         rw [if_neg (by simp), if_neg (by rw [HAB.out.1, HAB.out.2]; simp), if_pos ht] at hO
         have HREC := hide hO
         clear hO
         go_wp2_with fail
         refine (HIH.out (turnedV cc) x b1 a1 HI.out.2 HI.out.1 F1 p1 r HREC.out _ HQ9.out.pool hbs).mono ?_
         rintro e W12 ⟨rfl, hr⟩
         have HR := hide hr
         clear hr
         go_wp2
         go_ret2
         exact RetP.from HQ9.out ⟨rfl, HR.out⟩
        ·skip
         have HT := hide ht
         clear ht
         go_upto_region 21 with fail
         go_cut [133] from 112 to 132 (fun sv wc => sv = .bool (swapB cc false true a1 b1) ∧ wc = W9)
         case first =>
          cases h0 : (cc == 0)
          rotate_left
          ·skip
           go_wp2
           go_meet
           case rel => exact ⟨by rw [show swapB cc false true a1 b1 = false by unfold swapB; simp [h0]], rfl⟩
          cases h1 : (cc == 1)
          rotate_left
          ·skip
           go_wp2
           go_meet
           case rel => exact ⟨by rw [show swapB cc false true a1 b1 = false by unfold swapB; simp [h0, h1]], rfl⟩
          cases h10 : (cc == 10)
          rotate_left
          ·skip
           go_wp2
           go_meet
           case rel => exact ⟨by rw [show swapB cc false true a1 b1 = false by unfold swapB; simp [h0, h1, h10]], rfl⟩
          exact absurd hcc10 (by rw [h10]; simp)
         case rest =>
          obtain ⟨rfl, rfl⟩ := hcut
          cases hsw : swapB cc false true a1 b1
          ·skip
           have hO := HO4.out
           rw [if_neg (by simp), if_neg (by rw [HAB.out.1, HAB.out.2]; simp), if_neg (by rw [HT.out]; simp), if_neg (by rw [hsw]; simp)] at hO
           injection hO with hO
           subst hO
           clear hsw
           have HWF := hide (condT_wf (by unfold I8; have := HCC.out; omega : I8 cc) (by unfold I8; have := HXW.out; omega : I8 x) HI.out.1 HI.out.2)
           have qb := fun (w : World) => build_cond cc x a1 b1 w
           go_wp2_with fail
           refine (put_r _ HWF.out _ HQ9.out.pool hbs).mono ?_
           rintro e W12 ⟨rfl, hr⟩
           have HR := hide hr
           clear hr
           go_wp2
           go_ret2
           exact RetP.from HQ9.out ⟨rfl, HR.out⟩
          ·skip
           have hO := HO4.out
           rw [if_neg (by simp), if_neg (by rw [HAB.out.1, HAB.out.2]; simp), if_neg (by rw [HT.out]; simp), if_pos hsw] at hO
           injection hO with hO
           subst hO
           clear hsw
           have HWF := hide (condT_wf (by unfold I8; have := HCC.out; omega : I8 cc) (by unfold I8; have := HXW.out; omega : I8 x) HI.out.2 HI.out.1)
           have qb := fun (w : World) => build_cond cc x b1 a1 w
           go_wp2_with fail
           refine (put_r _ HWF.out _ HQ9.out.pool hbs).mono ?_
           rintro e W12 ⟨rfl, hr⟩
           have HR := hide hr
           clear hr
           go_wp2
           go_ret2
           exact RetP.from HQ9.out ⟨rfl, HR.out⟩
    ·skip
     cases rt
     ·skip
      cases hab : (a1 == b1)
      ·skip
       have HAB := hide hab
       go_wp2_with fail
       refine (turned_any cc _).mono ?_
       rintro e W10 ⟨rfl, rfl⟩
       cases ht : turnedB cc
       rotate_left
       ·skip
        have hO := HO4.out
        rw [if_neg (by simp), if_neg (by rw [HAB.out]; simp), if_pos ht] at hO
        have HREC := hide hO
        clear hO
        go_wp2_with fail
        refine (HIH.out (turnedV cc) x b1 a1 HI.out.2 HI.out.1 F1 p1 r HREC.out _ HQ9.out.pool hbs).mono ?_
        rintro e W12 ⟨rfl, hr⟩
        have HR := hide hr
        clear hr
        go_wp2
        go_ret2
        exact RetP.from HQ9.out ⟨rfl, HR.out⟩
       ·skip
        have HT := hide ht
        clear ht
        go_upto_region 21 with fail
        go_cut [133] from 112 to 132 (fun sv wc => sv = .bool (swapB cc true false a1 b1) ∧ wc = W9)
        case first =>
         cases h0 : (cc == 0)
         rotate_left
         ·skip
          go_wp2
          go_meet
          case rel => exact ⟨by rw [show swapB cc true false a1 b1 = true by unfold swapB; simp [h0]], rfl⟩
         cases h1 : (cc == 1)
         rotate_left
         ·skip
          go_wp2
          go_meet
          case rel => exact ⟨by rw [show swapB cc true false a1 b1 = true by unfold swapB; simp [h0, h1]], rfl⟩
         cases h10 : (cc == 10)
         rotate_left
         ·skip
          go_wp2
          go_meet
          case rel => exact ⟨by rw [show swapB cc true false a1 b1 = true by unfold swapB; simp [h0, h1, h10]], rfl⟩
         go_wp2
         go_meet
         case rel => exact ⟨by rw [show swapB cc true false a1 b1 = false by unfold swapB; simp [h0, h1, h10]], rfl⟩
        case rest =>
         obtain ⟨rfl, rfl⟩ := hcut
         cases hsw : swapB cc true false a1 b1
         ·skip
          have hO := HO4.out
          rw [if_neg (by simp), if_neg (by rw [HAB.out]; simp), if_neg (by rw [HT.out]; simp), if_neg (by rw [hsw]; simp)] at hO
          injection hO with hO
          subst hO
          clear hsw
          have HWF := hide (condT_wf (by unfold I8; have := HCC.out; omega : I8 cc) (by unfold I8; have := HXW.out; omega : I8 x) HI.out.1 HI.out.2)
          have qb := fun (w : World) => build_cond cc x a1 b1 w
          go_wp2_with fail
          refine (put_r _ HWF.out _ HQ9.out.pool hbs).mono ?_
          rintro e W12 ⟨rfl, hr⟩
          have HR := hide hr
          clear hr
          go_wp2
          go_ret2
          exact RetP.from HQ9.out ⟨rfl, HR.out⟩
         ·skip
          have hO := HO4.out
          rw [if_neg (by simp), if_neg (by rw [HAB.out]; simp), if_neg (by rw [HT.out]; simp), if_pos hsw] at hO
          injection hO with hO
          subst hO
          clear hsw
          have HWF := hide (condT_wf (by unfold I8; have := HCC.out; omega : I8 cc) (by unfold I8; have := HXW.out; omega : I8 x) HI.out.2 HI.out.1)
          have qb := fun (w : World) => build_cond cc x b1 a1 w
          go_wp2_with fail
          refine (put_r _ HWF.out _ HQ9.out.pool hbs).mono ?_
          rintro e W12 ⟨rfl, hr⟩
          have HR := hide hr
          clear hr
          go_wp2
          go_ret2
          exact RetP.from HQ9.out ⟨rfl, HR.out⟩
      ·skip
       cases hcc10 : (cc == 10)
       ·skip
        have hn10 : (cc != 10) = true := by simp only [bne, hcc10]; rfl
        have hO := HO4.out
        rw [if_neg (by simp), if_pos (by rw [hab, hn10]; rfl), H00.out] at hO
        injection hO with hO
        subst hO
        go_wp2_with fail
        refine (flag_any h00 _).mono ?_
        rintro e W10 ⟨rfl, rfl⟩
        go_wp2_with fail
        refine (const_any _ (flagV_u64 _) _ HQ9.out.pool hbs).mono ?_
        rintro e W11 ⟨rfl, hr⟩
        have HR := hide hr
        clear hr
        go_wp2
        go_ret2
        exact RetP.from HQ9.out ⟨rfl, HR.out⟩
       ·skip
        have hn10 : (cc != 10) = false := by simp only [bne, hcc10]; rfl
        have HAB := hide (And.intro hab hn10)
        go_wp2_with fail
        refine (turned_any cc _).mono ?_
        rintro e W10 ⟨rfl, rfl⟩
        cases ht : turnedB cc
        rotate_left
        ·skip
         have hO := HO4.out
         rw [if_neg (by simp), if_neg (by rw [HAB.out.1, HAB.out.2]; simp), if_pos ht] at hO
         have HREC := hide hO
         clear hO
         go_wp2_with fail
         refine (HIH.out (turnedV cc) x b1 a1 HI.out.2 HI.out.1 F1 p1 r HREC.out _ HQ9.out.pool hbs).mono ?_
         rintro e W12 ⟨rfl, hr⟩
         have HR := hide hr
         clear hr
         go_wp2
         go_ret2
         exact RetP.from HQ9.out ⟨rfl, HR.out⟩
        ·skip
         have HT := hide ht
         clear ht
         go_upto_region 21 with fail
         go_cut [133] from 112 to 132 (fun sv wc => sv = .bool (swapB cc true false a1 b1) ∧ wc = W9)
         case first =>
          cases h0 : (cc == 0)
          rotate_left
          ·skip
           go_wp2
           go_meet
           case rel => exact ⟨by rw [show swapB cc true false a1 b1 = true by unfold swapB; simp [h0]], rfl⟩
          cases h1 : (cc == 1)
          rotate_left
          ·skip
           go_wp2
           go_meet
           case rel => exact ⟨by rw [show swapB cc true false a1 b1 = true by unfold swapB; simp [h0, h1]], rfl⟩
          cases h10 : (cc == 10)
          rotate_left
          ·skip
           go_wp2
           go_meet
           case rel => exact ⟨by rw [show swapB cc true false a1 b1 = true by unfold swapB; simp [h0, h1, h10]], rfl⟩
          exact absurd hcc10 (by rw [h10]; simp)
         case rest =>
          obtain ⟨rfl, rfl⟩ := hcut
          cases hsw : swapB cc true false a1 b1
          ·skip
           have hO := HO4.out
           rw [if_neg (by simp), if_neg (by rw [HAB.out.1, HAB.out.2]; simp), if_neg (by rw [HT.out]; simp), if_neg (by rw [hsw]; simp)] at hO
           injection hO with hO
           subst hO
           clear hsw
           have HWF := hide (condT_wf (by unfold I8; have := HCC.out; omega : I8 cc) (by unfold I8; have := HXW.out; omega : I8 x) HI.out.1 HI.out.2)
           have qb := fun (w : World) => build_cond cc x a1 b1 w
           go_wp2_with fail
           refine (put_r _ HWF.out _ HQ9.out.pool hbs).mono ?_
           rintro e W12 ⟨rfl, hr⟩
           have HR := hide hr
           clear hr
           go_wp2
           go_ret2
           exact RetP.from HQ9.out ⟨rfl, HR.out⟩
          ·skip
           have hO := HO4.out
           rw [if_neg (by simp), if_neg (by rw [HAB.out.1, HAB.out.2]; simp), if_neg (by rw [HT.out]; simp), if_pos hsw] at hO
           injection hO with hO
           subst hO
           clear hsw
           have HWF := hide (condT_wf (by unfold I8; have := HCC.out; omega : I8 cc) (by unfold I8; have := HXW.out; omega : I8 x) HI.out.2 HI.out.1)
           have qb := fun (w : World) => build_cond cc x b1 a1 w
           go_wp2_with fail
           refine (put_r _ HWF.out _ HQ9.out.pool hbs).mono ?_
           rintro e W12 ⟨rfl, hr⟩
           have HR := hide hr
           clear hr
           go_wp2
           go_ret2
           exact RetP.from HQ9.out ⟨rfl, HR.out⟩
     ·skip
      have hO := HO4.out
      rw [if_pos (show (true && true) = true from rfl)] at hO
      injection hO with hO
      subst hO
      go_wp2_with fail
      refine (holds_yes sA.n sB.n _ HD.out).mono ?_
      rintro e W10 ⟨rfl, rfl⟩
      go_wp2_with fail
      refine (flag_any (holdsU cc x sA.n sB.n) _).mono ?_
      rintro e W10 ⟨rfl, rfl⟩
      go_wp2_with fail
      refine (const_any _ (flagV_u64 _) _ HQ9.out.pool hbs).mono ?_
      rintro e W11 ⟨rfl, hr⟩
      have HR := hide hr
      clear hr
      go_wp2
      go_ret2
      exact RetP.from HQ9.out ⟨rfl, HR.out⟩
theorem cond_all (f : Nat) : CondC base g f := by
 induction f with
 | zero => intro cc x a b _ _ F p r hO; cases hO
 | succ f ih => exact cond_step f ih
end
end Go.Proofs.YtepagfkkjlbipaaGreat
