/-
  Parts of the proof of SymbcSound. Conditions: those written in each statement.
-/
import Derived.Test.YtepagfkkjlbipaaGreatNq
import Derived.Test.YtepagfkkjlbipaaGreatKai
set_option linter.unusedVariables false
set_option linter.unusedSimpArgs false
set_option maxHeartbeats 64000000
set_option maxRecDepth 100000
namespace Go.Proofs.YtepagfkkjlbipaaGreat
open Tryz
section
open Go.RowKit
def flagV (b : Bool) : Int := if b = true then 1 else 0
theorem flagV_u64 (b : Bool) : U64 (flagV b) := by unfold flagV U64; cases b <;> simp
theorem flag_any (b : Bool) (w : World) : Calls prog 100 #[.bool b] w fun e w' => e = .returned (.int .u64 (flagV b)) ∧ w = w' := by
 cases b
 ·go_enter func100, ntmps100
  go_wp2
  go_ret
  exact ⟨rfl, rfl⟩
 ·go_enter func100, ntmps100
  go_wp2
  go_ret
  exact ⟨rfl, rfl⟩
def turnedV (cc : Int) : Int := if cc = 2 then 4 else if cc = 3 then 5 else if cc = 6 then 8 else if cc = 7 then 9 else cc
def turnedB (cc : Int) : Bool := cc == 2 || (cc == 3 || (cc == 6 || cc == 7))
theorem turned_any (cc : Int) (w : World) : Calls prog 138 #[.int .i8 cc] w fun e w' => e = .returned (.tuple #[.int .i8 (turnedV cc), .bool (turnedB cc)]) ∧ w = w' := by
 cases h2 : (cc == 2)
 rotate_left
 ·obtain rfl : cc = 2 := by simpa using h2
  go_enter func138, ntmps138
  go_wp2
  go_ret2
  exact ⟨rfl, rfl⟩
 cases h3 : (cc == 3)
 rotate_left
 ·obtain rfl : cc = 3 := by simpa using h3
  go_enter func138, ntmps138
  go_wp2
  go_ret2
  exact ⟨rfl, rfl⟩
 cases h6 : (cc == 6)
 rotate_left
 ·obtain rfl : cc = 6 := by simpa using h6
  go_enter func138, ntmps138
  go_wp2
  go_ret2
  exact ⟨rfl, rfl⟩
 cases h7 : (cc == 7)
 rotate_left
 ·obtain rfl : cc = 7 := by simpa using h7
  go_enter func138, ntmps138
  go_wp2
  go_ret2
  exact ⟨rfl, rfl⟩
 have e1 : turnedV cc = cc := by unfold turnedV; simp at h2 h3 h6 h7; simp [h2, h3, h6, h7]
 have e2 : turnedB cc = false := by unfold turnedB; simp [h2, h3, h6, h7]
 rw [e1, e2]
 clear e1 e2
 go_enter func138, ntmps138
 go_wp2
 go_ret2
 exact ⟨rfl, rfl⟩
def condT (cc x a b : Int) : TD := ⟨4, cc, x, 0, a, b, 0⟩
theorem condT_wf {cc x a b : Int} (ho : I8 cc) (hx : I8 x) (ha : I64 a) (hb : I64 b) : (condT cc x a b).wf := by unfold TD.wf I8 U64 I64 condT; unfold I8 at ho hx; unfold I64 at ha hb; dsimp only; exact ⟨by omega, ho, hx, by omega, ha, hb, by omega⟩
theorem build_cond (cc x a b : Int) (w : World) : (Instr.build 147 #[(0, .int .i8 4), (1, .int .i8 cc), (2, .int .i8 x), (4, .int .i64 a), (5, .int .i64 b)]).run prog w = .ok (termV (condT cc x a b)) w := run_build w 147 _ _ (by kernel_rfl)
def swapB (cc : Int) (lf rt : Bool) (a b : Int) : Bool := (cc == 0 || (cc == 1 || cc == 10)) && (lf || (!rt && decide (b < a)))
def condL (rec : PS → Int → Int → Int → Option RS) (p : PS) (cc x a b : Int) : Option RS :=
 let s := atP p.T a
 let y := atP p.T b
 if (s.kind == 0 && y.kind == 0) = true then some (putR p (constT (flagV (holdsU cc x s.n y.n))))
 else if (a == b && cc != 10) = true then some (putR p (constT (flagV (holdsU cc x 0 0))))
 else if turnedB cc = true then rec p (turnedV cc) b a
 else if swapB cc (s.kind == 0) (y.kind == 0) a b = true then some (putR p (condT cc x b a))
 else some (putR p (condT cc x a b))
def condF : Nat → PS → Int → Int → Int → Int → Option RS
 | 0, _, _, _, _, _ => none
 | f + 1, p, cc, x, a, b =>
  if (hasB p.T a && hasB p.T b) = false then some (p, 0, 2)
  else if holdsOk cc x = false then some (p, 0, 2)
  else if (bothP p x a b).2.2.2 = 0 then condL (fun q o u v => condF f q o x u v) (bothP p x a b).1 cc x (bothP p x a b).2.1 (bothP p x a b).2.2.1 else some ((bothP p x a b).1, 0, (bothP p x a b).2.2.2)
theorem condF_succ (f : Nat) (p : PS) (cc x a b : Int) : condF (f + 1) p cc x a b = if (hasB p.T a && hasB p.T b) = false then some (p, 0, 2)
 else if holdsOk cc x = false then some (p, 0, 2)
 else if (bothP p x a b).2.2.2 = 0 then condL (fun q o u v => condF f q o x u v) (bothP p x a b).1 cc x (bothP p x a b).2.1 (bothP p x a b).2.2.1 else some ((bothP p x a b).1, 0, (bothP p x a b).2.2.2) := rfl
def CondC (base g f : Nat) : Prop := ∀ (cc x a b : Int) (ha : I64 a) (hb : I64 b) (F : Nat → Prop) (p : PS) (r : RS) (hO : condF f p cc x a b = some r) (W : World) (h : PoolAt W base F g p) (hbase : base ≤ W.heap.size),
 Calls prog 82 #[.pointer (some ⟨g, 0, none⟩), .int .i8 cc, .int .i8 x, .int .i64 a, .int .i64 b] W (RetP base g F W r)
section
variable {base g : Nat}
theorem cond_step (f : Nat) (hIH : CondC base g f) : CondC base g (f + 1) := by
 intro cc x a b ha hb F p r hO W h hbase
 have HIH := Hd hIH
 have HA := Hd ha
 have HBI := Hd hb
 have HB := Hd hbase
 rw [condF_succ] at hO
 have HO := Hd hO
 have HP := Hd h
 clear hIH ha hb hbase hO h
 have hb1 := bl_alloc W (.cells #[.int .i64 a, .int .i64 b] 3)
 have HQ1 := Hd (PG.of_below HP.out hb1)
 go_enter func82, ntmps82
 go_wp2_with fail
 refine (there_any [a, b] _ 2 2 _ HQ1.out.pool (reads_list W 3 [.int .i64 a, .int .i64 b] 2 rfl) rfl (Nat.le_refl _) (by omega)).mono ?_
 rintro e W2 ⟨rfl, hb⟩
 have HQ2 := Hd (HQ1.out.step hb)
 clear hb hb1 HQ1
 have HALL := Hd (show ([a, b].all (hasB p.T)) = (hasB p.T a && hasB p.T b) by simp)
 rw [HALL.out]
 cases hh : (hasB p.T a && hasB p.T b)
 ·have hO := HO.out
  rw [if_pos hh] at hO
  injection hO with hO
  subst hO
  simp only [Bool.false_eq_true, if_false]
  go_wp2
  go_ret2
  exact RetP.same HQ2.out
 ·have hO := HO.out
  rw [if_neg (by rw [hh]; simp)] at hO
  have HO2 := Hd hO
  simp only [if_true]
  clear hO HO
  cases hd : holdsOk cc x
  ·have hO := HO2.out
   rw [if_pos hd] at hO
   injection hO with hO
   subst hO
   have HD := Hd hd
   clear hd
   go_wp2_with fail
   refine (holds_no 0 0 _ HD.out).mono ?_
   rintro e W3 ⟨rfl, rfl⟩
   go_wp2
   go_ret2
   exact RetP.same HQ2.out
  ·have hO := HO2.out
   rw [if_neg (by rw [hd]; simp)] at hO
   have HO3 := Hd hO
   have HD := Hd hd
   clear hO HO2 hd
   have HXW := Hd (holdsOk_yes HD.out).1
   have HCC := Hd (holdsOk_yes HD.out).2
   go_wp2_with fail
   refine (holds_yes 0 0 _ HD.out).mono ?_
   rintro e W3 ⟨rfl, rfl⟩
   obtain ⟨h00, hh00⟩ : ∃ v, holdsU cc x 0 0 = v := ⟨_, rfl⟩
   rw [hh00]
   have H00 := Hd hh00
   clear hh00
   go_upto_region 8 with fail
   have hb4 := bl_alloc W2 (.cells #[.pointer (some ⟨g, 0, none⟩)] 125)
   have HQ4 := Hd (HQ2.out.step hb4)
   have H15 := Hd (Own1.new HQ2.out.pool 125 (.pointer (some ⟨g, 0, none⟩)))
   obtain ⟨b15, hb15⟩ : ∃ b, W2.heap.size = b := ⟨_, rfl⟩
   rw [hb15] at H15 ⊢
   clear hb4 HQ2 hb15
   generalize W2.alloc (.cells #[.pointer (some ⟨g, 0, none⟩)] 125) = W4 at HQ4 H15 ⊢
   have c15 := H15.out.1.cell 0
   simp at c15
   go_wp2_with fail
   refine (both_any x a b HXW.out _ HQ4.out.pool (Nat.le_trans HB.out HQ4.out.size)).mono ?_
   rintro e W5 ⟨rfl, F1, hp1⟩
   have HQ5 := Hd (HQ4.out.trans hp1)
   have H155 := Hd (H15.out.pg hp1)
   obtain ⟨q, hq⟩ : ∃ q, bothP p x a b = q := ⟨_, rfl⟩
   rw [hq] at HO3 HQ5 ⊢
   have HI := Hd (show I64 q.2.1 ∧ I64 q.2.2.1 from hq ▸ both_i64 HP.out.wf HP.out.rng HA.out HBI.out x)
   obtain ⟨p1, a1, b1, er⟩ := q
   clear hp1 hq c15 HQ4 H15
   dsimp only at HO3 HQ5 HI ⊢
   cases her : (er == 0)
   ·have hO := HO3.out
    rw [if_neg (by simpa using her)] at hO
    injection hO with hO
    subst hO
    go_wp2
    go_ret2
    exact RetP.same HQ5.out
   ·have hO := HO3.out
    rw [if_pos (by simpa using her)] at hO
    obtain ⟨sA, hsA⟩ : ∃ s, atP p1.T a1 = s := ⟨_, rfl⟩
    obtain ⟨sB, hsB⟩ : ∃ s, atP p1.T b1 = s := ⟨_, rfl⟩
    unfold condL at hO
    rw [hsA, hsB] at hO
    dsimp only at hO
    have HO4 := Hd hO
    have HSA := Hd hsA
    have HSB := Hd hsB
    clear hO HO3 hsA hsB
    have c15 := H155.out.1.cell 0
    simp at c15
    go_wp2_with fail
    refine (constant_any a1 _ HQ5.out.pool).mono ?_
    rintro e W7 ⟨rfl, hb⟩
    have HQ7 := Hd (HQ5.out.step hb)
    have H157 := Hd (H155.out.below hb)
    clear hb HQ5 H155 c15
    rw [HSA.out]
    have c15 := H157.out.1.cell 0
    simp at c15
    go_wp2_with fail
    refine (constant_any b1 _ HQ7.out.pool).mono ?_
    rintro e W9 ⟨rfl, hb⟩
    have HQ9 := Hd (HQ7.out.step hb)
    clear hb HQ7 H157 c15
    rw [HSB.out]
    have hbs : base ≤ W9.heap.size := Nat.le_trans HB.out HQ9.out.size
    obtain ⟨lf, hlf⟩ : ∃ v, (sA.kind == 0) = v := ⟨_, rfl⟩
    obtain ⟨rt, hrt⟩ : ∃ v, (sB.kind == 0) = v := ⟨_, rfl⟩
    rw [hlf, hrt] at HO4 ⊢
    clear hlf hrt
    obtain ⟨sw, hsw0⟩ : ∃ s, swapB cc lf rt a1 b1 = s := ⟨_, rfl⟩
    have HSW := Hd hsw0
    clear hsw0
    have lr4 : (lf = true ∧ rt = true) ∨ (lf = false ∧ rt = false) ∨ (lf = false ∧ rt = true) ∨ (lf = true ∧ rt = false) := by cases lf <;> cases rt <;> simp
    have key : (a1 == b1) = false ∨ (a1 == b1) = true ∧ (cc == 10) = true ∧ (cc != 10) = false ∨ (a1 == b1) = true ∧ (cc == 10) = false ∧ (cc != 10) = true := by cases h : (a1 == b1) <;> cases h2 : (cc == 10) <;> simp [bne, h2]
    rcases lr4 with ⟨rfl, rfl⟩ | ⟨rfl, rfl⟩ | ⟨rfl, rfl⟩ | ⟨rfl, rfl⟩
    ·clear key HSW
     have hO := HO4.out
     rw [if_pos (show (true && true) = true from rfl)] at hO
     injection hO with hO
     subst hO
     go_wp2_with fail
     refine (holds_yes sA.n sB.n _ HD.out).mono ?_
     rintro e W10 ⟨rfl, rfl⟩
     go_wp2_with fail
     refine (flag_any (holdsU cc x sA.n sB.n) _).mono ?_
     rintro e W10 ⟨rfl, rfl⟩
     go_wp2_with fail
     refine (const_any _ (flagV_u64 _) _ HQ9.out.pool hbs).mono ?_
     rintro e W11 ⟨rfl, hr⟩
     have HR := Hd hr
     clear hr
     go_wp2
     go_ret2
     exact RetP.from HQ9.out ⟨rfl, HR.out⟩
    all_goals
     rcases key with hab | ⟨hab, hcc10, hn10⟩ | ⟨hab, hcc10, hn10⟩
     rotate_left 2
     ·have hO := HO4.out
      rw [if_neg (by simp), if_pos (by rw [hab, hn10]; rfl), H00.out] at hO
      injection hO with hO
      subst hO
      go_wp2_with fail
      refine (flag_any h00 _).mono ?_
      rintro e W10 ⟨rfl, rfl⟩
      go_wp2_with fail
      refine (const_any _ (flagV_u64 _) _ HQ9.out.pool hbs).mono ?_
      rintro e W11 ⟨rfl, hr⟩
      have HR := Hd hr
      clear hr
      go_wp2
      go_ret2
      exact RetP.from HQ9.out ⟨rfl, HR.out⟩
     all_goals
      have HAB := Hd (show (a1 == b1 && cc != 10) = false by first | simp [hab, hn10] | simp [hab])
      go_wp2_with fail
      refine (turned_any cc _).mono ?_
      rintro e W10 ⟨rfl, rfl⟩
      cases ht : turnedB cc
      rotate_left
      ·have hO := HO4.out
       rw [if_neg (by simp), if_neg (by rw [HAB.out]; simp), if_pos ht] at hO
       have HREC := Hd hO
       clear hO
       go_wp2_with fail
       refine (HIH.out (turnedV cc) x b1 a1 HI.out.2 HI.out.1 F1 p1 r HREC.out _ HQ9.out.pool hbs).mono ?_
       rintro e W12 ⟨rfl, hr⟩
       have HR := Hd hr
       clear hr
       go_wp2
       go_ret2
       exact RetP.from HQ9.out ⟨rfl, HR.out⟩
      have HT := Hd ht
      clear ht
      go_upto_region 21 with fail
      go_cut [133] from 112 to 132 (fun sv wc => sv = .bool sw ∧ wc = W9)
      case first =>
       have k4 : (cc == 0) = true ∨ (cc == 0) = false ∧ (cc == 1) = true ∨ (cc == 0) = false ∧ (cc == 1) = false ∧ (cc == 10) = true ∨ (cc == 0) = false ∧ (cc == 1) = false ∧ (cc == 10) = false := by cases (cc == 0) <;> cases (cc == 1) <;> cases (cc == 10) <;> simp
       rcases k4 with h0 | ⟨h0, h1⟩ | ⟨h0, h1, h10⟩ | ⟨h0, h1, h10⟩
       all_goals cases hlt : decide (b1 < a1)
       all_goals
        go_wp2
        go_meet
        case rel => first | exact absurd (h10.symm.trans hcc10) (by decide) | exact ⟨by rw [← HSW.out]; unfold swapB; first | simp [h0, h1, h10, hlt] | simp [h0, h1, hlt] | simp [h0, hlt], rfl⟩
      case rest =>
       obtain ⟨rfl, rfl⟩ := hcut
       cases sw
       ·have hO := HO4.out
        rw [if_neg (by simp), if_neg (by rw [HAB.out]; simp), if_neg (by rw [HT.out]; simp), if_neg (by rw [HSW.out]; simp)] at hO
        injection hO with hO
        subst hO
        have HWF := Hd (condT_wf (by unfold I8; have := HCC.out; omega : I8 cc) (by unfold I8; have := HXW.out; omega : I8 x) HI.out.1 HI.out.2)
        have qb := fun (w : World) => build_cond cc x a1 b1 w
        go_wp2_with fail
        refine (put_r _ HWF.out _ HQ9.out.pool hbs).mono ?_
        rintro e W12 ⟨rfl, hr⟩
        have HR := Hd hr
        clear hr
        go_wp2
        go_ret2
        exact RetP.from HQ9.out ⟨rfl, HR.out⟩
       ·have hO := HO4.out
        rw [if_neg (by simp), if_neg (by rw [HAB.out]; simp), if_neg (by rw [HT.out]; simp), if_pos HSW.out] at hO
        injection hO with hO
        subst hO
        have HWF := Hd (condT_wf (by unfold I8; have := HCC.out; omega : I8 cc) (by unfold I8; have := HXW.out; omega : I8 x) HI.out.2 HI.out.1)
        have qb := fun (w : World) => build_cond cc x b1 a1 w
        go_wp2_with fail
        refine (put_r _ HWF.out _ HQ9.out.pool hbs).mono ?_
        rintro e W12 ⟨rfl, hr⟩
        have HR := Hd hr
        clear hr
        go_wp2
        go_ret2
        exact RetP.from HQ9.out ⟨rfl, HR.out⟩
theorem cond_all (f : Nat) : CondC base g f := by
 induction f with
 | zero => intro cc x a b _ _ F p r hO; cases hO
 | succ f ih => exact cond_step f ih
end
end
section
open Go.RowKit
def evT (vs : List Int) (t : TD) (rec : Int → Option Int) : Option Int :=
 if t.kind = 1 then (vs[t.n.toNat]?).map (cutV t.w)
 else if t.kind = 3 then (rec t.a).map (cutV t.w)
 else if t.kind = 2 then (rec t.a).bind fun a => (rec t.b).map fun b => doU t.op t.w a b
 else if t.kind = 4 then (rec t.a).bind fun a => (rec t.b).map fun b => flagV (holdsU t.op t.w a b)
 else if t.kind = 5 then (rec t.a).bind fun a => (rec t.b).bind fun b => (rec t.c).map fun c => if a = 0 then c else b
 else some t.n
def evF (T : List TD) (vs : List Int) : Nat → Int → Option Int
 | 0, _ => none
 | f + 1, n => if hasB T n = false then none else evT vs (atP T n) (evF T vs f)
def evP (T : List TD) (vs : List Int) (n : Int) : Option Int := evF T vs (n.toNat + 1) n
theorem evT_congr (vs : List Int) (t : TD) {r1 r2 : Int → Option Int} (h : ∀ k ∈ prtL t, r1 k = r2 k) : evT vs t r1 = evT vs t r2 := by
 unfold prtL at h
 unfold evT
 by_cases h1 : t.kind = 1
 ·rw [if_pos h1, if_pos h1]
 rw [if_neg h1, if_neg h1]
 by_cases h3 : t.kind = 3
 ·rw [if_pos h3, if_pos h3, h t.a (by simp [h3])]
 rw [if_neg h3, if_neg h3]
 by_cases h2 : t.kind = 2
 ·rw [if_pos h2, if_pos h2, h t.a (by simp [h2]), h t.b (by simp [h2])]
 rw [if_neg h2, if_neg h2]
 by_cases h4 : t.kind = 4
 ·rw [if_pos h4, if_pos h4, h t.a (by simp [h4]), h t.b (by simp [h4])]
 rw [if_neg h4, if_neg h4]
 by_cases h5 : t.kind = 5
 ·rw [if_pos h5, if_pos h5, h t.a (by simp [h5]), h t.b (by simp [h5]), h t.c (by simp [h5])]
 rw [if_neg h5, if_neg h5]
section
variable {p : PS} (hw : WfP p) {vs : List Int}
include hw
theorem part_less {n k : Int} (hn : hasB p.T n = true) (hk : k ∈ prtL (atP p.T n)) : 0 ≤ k ∧ k < n := by
 unfold atP at hk
 rw [if_pos hn] at hk
 unfold hasB at hn
 simp at hn
 have hl : n.toNat < p.T.length := by omega
 have ht : p.T[n.toNat]? = some (p.T.getD n.toNat zeroT) := by rw [List.getD_eq_getElem?_getD, List.getElem?_eq_getElem hl]; rfl
 have := hw.part _ _ ht k hk
 omega
theorem evF_same : ∀ (f g : Nat) (n : Int), n.toNat < f → n.toNat < g → evF p.T vs f n = evF p.T vs g n := by
 intro f
 induction f with
 | zero => intro g n hn; omega
 | succ f ih =>
  intro g n hn hg
  cases g with
  | zero => omega
  | succ g =>
   show (if hasB p.T n = false then none else evT vs (atP p.T n) (evF p.T vs f)) = (if hasB p.T n = false then none else evT vs (atP p.T n) (evF p.T vs g))
   cases hb : hasB p.T n
   ·rfl
   ·simp only [Bool.true_eq_false, if_false]
    refine evT_congr vs _ fun k hk => ?_
    have hk2 := part_less hw hb hk
    exact ih g k (by omega) (by omega)
theorem evP_eq {n : Int} (hn : hasB p.T n = true) : evP p.T vs n = evT vs (atP p.T n) (evP p.T vs) := by
 unfold evP
 show (if hasB p.T n = false then none else evT vs (atP p.T n) (evF p.T vs n.toNat)) = _
 rw [if_neg (by rw [hn]; simp)]
 refine evT_congr vs _ fun k hk => ?_
 have hk2 := part_less hw hn hk
 exact evF_same hw _ _ k (by omega) (by omega)
end
theorem evP_no {T : List TD} {vs : List Int} {n : Int} (hn : hasB T n = false) : evP T vs n = none := by
 unfold evP
 show (if hasB T n = false then none else _) = none
 rw [if_pos hn]
theorem evT_u64 {vs : List Int} (hv : ∀ v ∈ vs, U64 v) {t : TD} (ht : t.wf) {rec : Int → Option Int} (hr : ∀ k v, rec k = some v → U64 v) {v : Int} (h : evT vs t rec = some v) : U64 v := by
 unfold evT at h
 split at h
 ·rw [Option.map_eq_some_iff] at h
  obtain ⟨a, ha, rfl⟩ := h
  exact cutV_u64 (hv a (List.mem_of_getElem? ha))
 split at h
 ·rw [Option.map_eq_some_iff] at h
  obtain ⟨a, ha, rfl⟩ := h
  exact cutV_u64 (hr _ _ ha)
 split at h
 ·rw [Option.bind_eq_some_iff] at h
  obtain ⟨a, ha, h⟩ := h
  rw [Option.map_eq_some_iff] at h
  obtain ⟨b, hb, rfl⟩ := h
  exact cutV_u64 (doV_u64 (cutV_u64 (hr _ _ ha)) (cutV_u64 (hr _ _ hb)))
 split at h
 ·rw [Option.bind_eq_some_iff] at h
  obtain ⟨a, ha, h⟩ := h
  rw [Option.map_eq_some_iff] at h
  obtain ⟨b, hb, rfl⟩ := h
  exact flagV_u64 _
 split at h
 ·rw [Option.bind_eq_some_iff] at h
  obtain ⟨a, ha, h⟩ := h
  rw [Option.bind_eq_some_iff] at h
  obtain ⟨b, hb, h⟩ := h
  rw [Option.map_eq_some_iff] at h
  obtain ⟨c, hc, rfl⟩ := h
  split
  ·exact hr _ _ hc
  ·exact hr _ _ hb
 ·injection h with h
  subst h
  exact ht.2.2.2.1
theorem evF_u64 {T : List TD} (hT : ∀ t ∈ T, t.wf) {vs : List Int} (hv : ∀ v ∈ vs, U64 v) : ∀ (f : Nat) (n v : Int), evF T vs f n = some v → U64 v := by
 intro f
 induction f with
 | zero => intro n v h; cases h
 | succ f ih =>
  intro n v h
  have h' : (if hasB T n = false then none else evT vs (atP T n) (evF T vs f)) = some v := h
  split at h'
  ·cases h'
  ·exact evT_u64 hv (atP_wf hT n) ih h'
theorem evP_u64 {T : List TD} (hT : ∀ t ∈ T, t.wf) {vs : List Int} (hv : ∀ v ∈ vs, U64 v) {n v : Int} (h : evP T vs n = some v) : U64 v := evF_u64 hT hv _ n v h
end
end Go.Proofs.YtepagfkkjlbipaaGreat
