/-
  Parts of the proof of SymbcSound. Conditions: those written in each statement.
-/
import Derived.Test.YtepagfkkjlbipaaGreatSb
set_option linter.unusedVariables false
set_option linter.unusedSimpArgs false
set_option maxHeartbeats 64000000
set_option maxRecDepth 100000
namespace Go.Proofs.YtepagfkkjlbipaaGreat
open Tryz
section
open Go.RowKit
theorem rtarget_any (i : Int) (x : ID) (w : World) : Calls prog 31 #[.int .i64 i, .agg x.cells.toArray] w (TgtP i x w) := by
 obtain ⟨k, op, wd, sz, br, dst, src, off, imm⟩ := x
 show Calls prog 31 #[.int .i64 i, .agg #[.int .i8 k, .int .i8 op, .int .i8 wd, .int .i8 sz, .bool br, .int .i8 dst, .int .i8 src, .int .i64 off, .int .i64 imm]] w _
 by_cases h3 : k = 3 ∨ k = 4
 ·cases t0 : decide (i < -1099511627776)
  ·cases t1 : decide (1099511627776 < i)
   ·cases t2 : decide (off < -1099511627776)
    ·cases t3 : decide (1099511627776 < off)
     ·have h1 : inB i (-1099511627776) 1099511627776 = true := by rw [inB_iff]; simp at t0 t1; omega
      have h2 : inB off (-1099511627776) 1099511627776 = true := by rw [inB_iff]; simp at t2 t3; omega
      obtain ⟨i0, i1⟩ := inB_iff.1 h1
      obtain ⟨o0, o1⟩ := inB_iff.1 h2
      have hT : tgtB i ⟨k, op, wd, sz, br, dst, src, off, imm⟩ = true := by unfold tgtB; rw [h1, h2]; rcases h3 with rfl | rfl <;> simp
      have hN : tgtN i ⟨k, op, wd, sz, br, dst, src, off, imm⟩ = i + 1 + off := by unfold tgtN; rw [hT]; rfl
      have HT := Hd hT
      have HN := Hd hN
      clear hT hN h1 h2
      rcases h3 with rfl | rfl
      all_goals
       go_enter func31, ntmps31
       go_wp2
       go_ret2
       exact ⟨by rw [HN.out, HT.out]; rfl, (Below.refl _ _).alloc (Nat.le_refl _) _⟩
     ·have h1 : inB off (-1099511627776) 1099511627776 = false := by rw [inB_no]; simp at t3; omega
      have hT : tgtB i ⟨k, op, wd, sz, br, dst, src, off, imm⟩ = false := by unfold tgtB; rw [h1]; simp
      have HT := Hd hT
      clear hT h1
      rcases h3 with rfl | rfl
      all_goals
       go_enter func31, ntmps31
       go_wp2
       go_ret2
       exact ⟨by rw [tgt_no HT.out, HT.out]; rfl, (Below.refl _ _).alloc (Nat.le_refl _) _⟩
    ·have h1 : inB off (-1099511627776) 1099511627776 = false := by rw [inB_no]; simp at t2; omega
     have hT : tgtB i ⟨k, op, wd, sz, br, dst, src, off, imm⟩ = false := by unfold tgtB; rw [h1]; simp
     have HT := Hd hT
     clear hT h1
     rcases h3 with rfl | rfl
     all_goals
      go_enter func31, ntmps31
      go_wp2
      go_ret2
      exact ⟨by rw [tgt_no HT.out, HT.out]; rfl, (Below.refl _ _).alloc (Nat.le_refl _) _⟩
   ·have h1 : inB i (-1099511627776) 1099511627776 = false := by rw [inB_no]; simp at t1; omega
    have hT : tgtB i ⟨k, op, wd, sz, br, dst, src, off, imm⟩ = false := by unfold tgtB; rw [h1]; simp
    have HT := Hd hT
    clear hT h1
    rcases h3 with rfl | rfl
    all_goals
     go_enter func31, ntmps31
     go_wp2
     go_ret2
     exact ⟨by rw [tgt_no HT.out, HT.out]; rfl, (Below.refl _ _).alloc (Nat.le_refl _) _⟩
  ·have h1 : inB i (-1099511627776) 1099511627776 = false := by rw [inB_no]; simp at t0; omega
   have hT : tgtB i ⟨k, op, wd, sz, br, dst, src, off, imm⟩ = false := by unfold tgtB; rw [h1]; simp
   have HT := Hd hT
   clear hT h1
   rcases h3 with rfl | rfl
   all_goals
    go_enter func31, ntmps31
    go_wp2
    go_ret2
    exact ⟨by rw [tgt_no HT.out, HT.out]; rfl, (Below.refl _ _).alloc (Nat.le_refl _) _⟩
 ·have hT : tgtB i ⟨k, op, wd, sz, br, dst, src, off, imm⟩ = false := by unfold tgtB; simp only [Bool.and_eq_false_iff]; left; left; simp; omega
  have HT := Hd hT
  have b3 : (k != 3) = true := by rw [bne_iff_ne]; omega
  have b4 : (k != 4) = true := by rw [bne_iff_ne]; omega
  clear hT h3
  go_enter func31, ntmps31
  go_wp2
  go_ret2
  exact ⟨by rw [tgt_no HT.out, HT.out]; rfl, (Below.refl _ _).alloc (Nat.le_refl _) _⟩
theorem rargs_any (n : Int) (w : World) : Calls prog 89 #[.int .i64 n] w fun e w' => e = .returned (.int .i64 (argsN n)) ∧ w = w' := by
 cases t0 : decide (n < 0)
 ·cases t1 : decide (16 ≤ n)
  ·have h0 : 0 ≤ n := by simpa using t0
   have h1 : n < 16 := by simpa using t1
   have hN : argsN n = n % 6 := by unfold argsN; rw [inB_iff.2 ⟨h0, by omega⟩]; rfl
   have HN := Hd hN
   clear hN
   go_enter func89, ntmps89
   go_wp2
   go_ret
   exact ⟨ret_ia HN.out.symm, rfl⟩
  ·have hN : argsN n = 0 := by unfold argsN; rw [inB_no.2 (by simp at t1; omega)]; rfl
   have HN := Hd hN
   clear hN
   go_enter func89, ntmps89
   go_wp2
   go_ret
   exact ⟨ret_ia HN.out.symm, rfl⟩
 ·have hN : argsN n = 0 := by unfold argsN; rw [inB_no.2 (by simp at t0; omega)]; rfl
  have HN := Hd hN
  clear hN
  go_enter func89, ntmps89
  go_wp2
  go_ret
  exact ⟨ret_ia HN.out.symm, rfl⟩
theorem rcheck_any (c : Int) (A : Option Addr) (n cap : Nat) (l : List ID) (w : World) (hh : InsAt w w.heap.size A n l) (hc : n ≤ cap) (hm : n < 9223372036854775808) :
  Calls prog 21 #[.agg #[.int .i64 c, .slice A n cap]] w (ChkP c l w) := by
 have hl := Hd hh.1
 have HH := Hd hh
 clear hh
 cases t0 : decide (c < 0)
 ·cases t1 : decide (256 < c)
  ·have h1 : inB c 0 256 = true := by rw [inB_iff]; simp at t0 t1; omega
   by_cases h2 : 1 ≤ n ∧ n ≤ 64
   ·have h2' := Hd (show inB ((l.length : Int) - 1) 0 63 = true by rw [hl.out, inB_iff]; omega)
    have h1' := Hd h1
    have hn1 : 1 ≤ n := h2.1
    have hn2 : n ≤ 64 := h2.2
    clear h1 h2
    go_enter func21, ntmps21
    go_wp2
    go_loopw [5] (fun i wr => CkRel c l w A n (.slice A n cap) i wr) (fun i _ => n - (intOf i).toNat)
    case atStart => exact ⟨0, by omega, rfl, by omega, HH.out.alloc (Nat.le_refl _) _, by simp, (Below.refl _ _).alloc (Nat.le_refl _) _, by simp⟩
    case round =>
     obtain ⟨k, hk, rfl, hok, hat, hc0, hbel, hsz⟩ := hrel
     have HB := Hd hbel
     have HOK := Hd hok
     have HAT := Hd hat
     clear hbel hok hat
     by_cases hlt : k < n
     ·obtain ⟨ad, x, rfl, hab, hx, hxw, hcell⟩ := HAT.out.at_ hlt
      have HX := Hd hx
      have HC := Hd hcell
      have HW := Hd hxw
      clear hx hcell hxw
      obtain ⟨mb, hmb⟩ : ∃ b, mayB x = b := ⟨_, rfl⟩
      obtain ⟨tb, htb⟩ : ∃ b, tgtB k x = b := ⟨_, rfl⟩
      obtain ⟨tn, htn⟩ : ∃ b, tgtN k x = b := ⟨_, rfl⟩
      have HMB := Hd hmb
      have HTB := Hd htb
      have HTN := Hd htn
      clear hmb htb htn
      go_wp2_with (first
       | (refine wpList_load_at rfl 47 (.tmp 33) rfl (ad.add (k * 9)) rfl x.cells _ HC.out underlying47 rfl sizI ?_)
       | fail)
      refine (rmay_any x _ HW.out).mono ?_
      rintro e w2 ⟨rfl, hb⟩
      rw [HMB.out]
      have hc2 : w2.cell? ⟨w.heap.size, 1, none⟩ = some (.slice (some ad) n cap) := (hb.cell (p := ⟨w.heap.size, 1, none⟩) hsz).trans hc0
      have HAT2 := Hd (HAT.out.below (hb.mono (Nat.le_of_lt hsz)))
      have HB2 := Hd (HB.out.trans (hb.mono (Nat.le_of_lt hsz)))
      have hsz2 : w.heap.size < w2.heap.size := Nat.lt_of_lt_of_le hsz hb.size
      have HC2 := Hd (fun j u hu => (hb.cell (p := (ad.add (k * 9)).add j) (by rw [block_of_add, block_of_add]; omega)).trans (HC.out j u hu) : ∀ j u, x.cells[j]? = some u → w2.cell? ((ad.add (k * 9)).add j) = some u)
      clear hb hc0 HAT HB HC
      cases mb
      ·go_wp2
       go_ret2
       have hbad : okAt n k x = false := by unfold okAt; rw [HMB.out]; rfl
       have hp := chk_bad (c := c) h1'.out h2'.out HX.out (by rw [hl.out]; exact HOK.out) (by rw [hl.out]; exact hbad)
       rw [HMB.out] at hp
       exact ⟨by rw [hp]; rfl, HB2.out⟩
      ·go_wp2_with (first
        | (refine wpList_load_at rfl 47 (.tmp 43) rfl (ad.add (k * 9)) rfl x.cells _ HC2.out underlying47 rfl sizI ?_)
        | fail)
       refine (rtarget_any k x _).mono ?_
       rintro e w3 ⟨rfl, hb⟩
       rw [HTB.out, HTN.out]
       have hc3 : w3.cell? ⟨w.heap.size, 1, none⟩ = some (.slice (some ad) n cap) := (hb.cell (p := ⟨w.heap.size, 1, none⟩) hsz2).trans hc2
       have HAT3 := Hd (HAT2.out.below (hb.mono (Nat.le_of_lt hsz2)))
       have HB3 := Hd (HB2.out.trans (hb.mono (Nat.le_of_lt hsz2)))
       have hsz3 : w.heap.size < w3.heap.size := Nat.lt_of_lt_of_le hsz2 hb.size
       clear hb hc2 HAT2 HB2 HC2
       have hcs : tb = false ∨ (tb = true ∧ decide (tn < 0) = true) ∨ (tb = true ∧ decide (tn < 0) = false ∧ decide ((n : Int) ≤ tn) = true) ∨ (tb = true ∧ decide (tn < 0) = false ∧ decide ((n : Int) ≤ tn) = false) := by cases tb <;> cases decide (tn < 0) <;> cases decide ((n : Int) ≤ tn) <;> simp
       rcases hcs with rfl | ⟨rfl, q1⟩ | ⟨rfl, q1, q2⟩ | ⟨rfl, q1, q2⟩
       all_goals
        go_wp2
        first
         | (go_ret2
            have hbad : okAt n k x = false := by
             unfold okAt
             rw [HMB.out, HTB.out, HTN.out]
             have : inB tn 0 ((n : Int) - 1) = false := by rw [inB_no]; first | (simp at q1 q2; omega) | (simp at q1; omega)
             rw [this]; rfl
            have hp := chk_bad (c := c) h1'.out h2'.out HX.out (by rw [hl.out]; exact HOK.out) (by rw [hl.out]; exact hbad)
            rw [HMB.out] at hp
            exact ⟨by rw [hp]; rfl, HB3.out⟩)
         | (have hgood : okAt n k x = true := by
              unfold okAt
              rw [HMB.out]
              first
               | (rw [HTB.out]; rfl)
               | (rw [HTB.out, HTN.out, show inB tn 0 ((n : Int) - 1) = true by rw [inB_iff]; simp at q1 q2; omega]; rfl)
            have HGD := Hd hgood
            clear hgood
            go_roundw
            case measure => simp [intOf]; omega
            case rel =>
             refine ⟨k + 1, by omega, by go_num, fun j y hj hy => ?_, HAT3.out, hc3, HB3.out, hsz3⟩
             rcases Nat.lt_or_ge j k with h | h
             ·exact HOK.out j y h hy
             ·obtain rfl : j = k := by omega
              have := HX.out
              rw [hy] at this
              obtain rfl := Option.some.inj this
              exact HGD.out)
     ·obtain rfl : k = n := by omega
      have hk1 : k - 1 < k := by omega
      obtain ⟨ad, x, rfl, hab, hx, hxw, hcell⟩ := HAT.out.at_ hk1
      have hlast : lastK l = x.kind := by unfold lastK; rw [hl.out, hx]; rfl
      have hp := chk_end (c := c) h1'.out h2'.out (fun i y hy => by rw [hl.out]; exact HOK.out i y (by have := (List.getElem?_eq_some_iff.1 hy).1; have := hl.out; omega) hy)
      rw [hlast, hl.out] at hp
      have HP := Hd hp
      have hkc : wr.cell? (ad.add ((k - 1) * 9)) = some (.int .i8 x.kind) := by
       have := hcell 0 _ rfl
       simpa [add_of_add] using this
      clear hcell hlast hp hx hxw hlt
      generalize hki : x.kind = ki at hkc ⊢
      rw [hki] at HP
      clear hki
      cases h4 : (ki != 4)
      all_goals
       cases h6 : (ki != 6)
       all_goals
        go_wp2
        go_ret2
        refine ⟨?_, HB.out⟩
        rw [HP.out]
        simp at h4 h6
        first
         | (rw [if_pos ⟨h4, h6⟩]; rfl)
         | (rw [if_neg (by simp [h4, h6])]; rfl)
   ·have hp := chk_long (c := c) (l := l) h1 (by rw [hl.out, inB_no]; omega)
    have HP := Hd hp
    have hn : n < 1 ∨ 64 < n := by omega
    clear hp h1 h2
    rcases hn with hn | hn
    ·obtain rfl : n = 0 := by omega
     go_enter func21, ntmps21
     go_wp2
     go_ret2
     exact ⟨by rw [HP.out]; rfl, (Below.refl _ _).alloc (Nat.le_refl _) _⟩
    ·have hd0 : decide ((n : Int) < 1) = false := by simp; omega
     have hd1 : decide ((64 : Int) < (n : Int)) = true := by simp; omega
     go_enter func21, ntmps21
     go_wp2
     go_ret2
     exact ⟨by rw [HP.out]; rfl, (Below.refl _ _).alloc (Nat.le_refl _) _⟩
  ·have hp := chk_ctx (c := c) (l := l) (by rw [inB_no]; simp at t1; omega)
   have HP := Hd hp
   clear hp
   go_enter func21, ntmps21
   go_wp2
   go_ret2
   exact ⟨by rw [HP.out]; rfl, (Below.refl _ _).alloc (Nat.le_refl _) _⟩
 ·have hp := chk_ctx (c := c) (l := l) (by rw [inB_no]; simp at t0; omega)
  have HP := Hd hp
  clear hp
  go_enter func21, ntmps21
  go_wp2
  go_ret2
  exact ⟨by rw [HP.out]; rfl, (Below.refl _ _).alloc (Nat.le_refl _) _⟩
end
section
open Go.RowKit
theorem ret_bn {a b : Bool} (h : a = b) : Ending.returned (.bool a) = .returned (.bool b) := by rw [h]
theorem sizI2 : (prog.info? 47).map (·.size) = some 9 := by kernel_rfl
theorem mark_no {j : Nat} {x : ID} {i : Nat} (h1 : jmpB x = true → j + 1 ≠ i) (h2 : tgtB j x = true → tgtN j x ≠ i) : mark j x i = false := by
 unfold mark
 rw [Bool.or_eq_false_iff, Bool.and_eq_false_iff, Bool.and_eq_false_iff]
 constructor
 ·cases h : jmpB x
  ·left; rfl
  ·right
   have := h1 h
   simp
   omega
 ·cases h : tgtB j x
  ·left; rfl
  ·right
   have := h2 h
   simp
   exact fun e => this e.symm
theorem begB_none {l : List ID} {i : Nat} {x : ID} (h0 : 0 < i) (hx : l[i - 1]? = some x) (hj : jmpB x = false) (h : ∀ (j : Nat) (y : ID), l[j]? = some y → tgtB j y = true → tgtN j y ≠ i) : begB l i = false :=
 begB_no h0 fun j y hy => mark_no (fun q e => by
  have : j = i - 1 := by omega
  subst this
  rw [hx] at hy
  obtain rfl := Option.some.inj hy
  rw [hj] at q
  cases q) (h j y hy)
theorem begB_prev {l : List ID} {i : Nat} {x : ID} (h0 : 0 < i) (hx : l[i - 1]? = some x) (hj : jmpB x = true) : begB l i = true := begB_of hx (by
 unfold mark
 rw [hj]
 have : ((i : Int) == ((i - 1 : Nat) : Int) + 1) = true := by simp; omega
 rw [this]
 rfl)
theorem begB_tgt {l : List ID} {i j : Nat} {x : ID} (hx : l[j]? = some x) (ht : tgtB j x = true) (hn : tgtN j x = i) : begB l i = true := begB_of hx (by
 unfold mark
 rw [ht, hn]
 simp)
theorem begins_any (c : Int) (A : Option Addr) (n cap : Nat) (l : List ID) (i : Nat) (w : World) (hh : InsAt w w.heap.size A n l) (hi : i < n) (hm : n < 9223372036854775808) :
  Calls prog 30 #[.agg #[.int .i64 c, .slice A n cap], .int .i64 i] w (BoolP (begB l i) w) := by
 have HL := Hd hh.1
 have HE := Hd (EnF.new (c := c) (cap := cap) hh)
 clear hh
 by_cases h0 : i = 0
 ·subst h0
  have HB := Hd (begB_zero l)
  have HBL := Hd HE.out.below
  go_enter func30, ntmps30
  go_wp2
  go_ret
  exact ⟨ret_bn HB.out.symm, HBL.out⟩
 ·have hd : ((i : Int) == 0) = false := by simp; omega
  have hi1 : (1 : Int) ≤ (i : Int) := by omega
  obtain ⟨ad, x, rfl, hab, hx, hxw, hcell⟩ := HE.out.ins.at_ (k := i - 1) (by omega)
  have HX := Hd hx
  have hkc := hcell 0 _ rfl
  rw [add_of_add] at hkc
  have hk0 : (w.alloc (.cells #[.int .i64 c, .slice (some ad) n cap] 24)).cell? (ad.add ((i - 1) * 9)) = some (.int .i8 x.kind) := hkc
  obtain ⟨kd, hkd⟩ : ∃ v, x.kind = v := ⟨_, rfl⟩
  rw [hkd] at hk0
  have HJ := Hd (show jmpB x = (kd == 3 || (kd == 4 || kd == 6)) by unfold jmpB; rw [hkd])
  have hti : ((i : Int) - 1).toNat = i - 1 := by omega
  have hlt1 : i - 1 < n := by omega
  clear hx hxw hcell hkc hkd
  have HBL := Hd HE.out.below
  by_cases hjm : jmpB x = true
  ·have HB := Hd (begB_prev (by omega) HX.out hjm)
   rw [HJ.out] at hjm
   have hc3 : (kd == 3) = true ∨ ((kd == 3) = false ∧ (kd == 4) = true) ∨ ((kd == 3) = false ∧ (kd == 4) = false ∧ (kd == 6) = true) := by
    cases h3 : (kd == 3) <;> cases h4 : (kd == 4) <;> cases h6 : (kd == 6) <;> simp_all
   clear hjm
   rcases hc3 with h3 | ⟨h3, h4⟩ | ⟨h3, h4, h6⟩
   all_goals
    go_enter func30, ntmps30
    go_wp2
    go_ret
    exact ⟨ret_bn HB.out.symm, HBL.out⟩
  ·have hjf : jmpB x = false := by simpa using hjm
   have HJF := Hd hjf
   rw [HJ.out] at hjf
   have h3 : (kd == 3) = false := by cases h : (kd == 3) <;> simp_all
   have h4 : (kd == 4) = false := by cases h : (kd == 4) <;> simp_all
   have h6 : (kd == 6) = false := by cases h : (kd == 6) <;> simp_all
   have c1 := HE.out.box1
   clear hjm hjf
   go_enter func30, ntmps30
   go_wp2_with fail
   go_loopw [6] (fun v wr => ∃ k : Nat, k ≤ n ∧ v = .int .i64 k ∧ EnF c (some ad) n cap l w wr ∧ Hid (∀ (j : Nat) (y : ID), j < k → l[j]? = some y → tgtB j y = true → tgtN j y ≠ i)) (fun v _ => n - (intOf v).toNat)
   case atStart => exact ⟨0, by omega, rfl, HE.out, fun j y h => by omega⟩
   case round =>
    obtain ⟨k, hk, rfl, he, HT⟩ := hrel
    clear HE c1 hk0
    have HE := Hd he
    have c1 := he.box1
    clear he
    by_cases hlt : k < n
    ·obtain ⟨ad2, y, hae, _, hy, hyw, hcy⟩ := HE.out.ins.at_ hlt
     injection hae with hae
     subst hae
     have HY := Hd hy
     have HC := Hd hcy
     clear hy hyw hcy
     go_wp2_with (first
      | (refine wpList_load_at rfl 47 (.tmp 40) rfl (ad.add (k * 9)) (by rfl) y.cells _ HC.out underlying47 rfl sizI2 ?_)
      | fail)
     refine (rtarget_any k y _).mono ?_
     rintro e w6 ⟨rfl, hb⟩
     have HE6 := Hd (HE.out.step hb)
     have c16 := HE6.out.box1
     clear hb c1
     cases ht : tgtB k y
     ·have HNX := Hd (fun (j : Nat) (z : ID) (hj : j < k + 1) (hz : l[j]? = some z) (hz2 : tgtB j z = true) => (by
       rcases Nat.lt_or_ge j k with h | h
       ·exact HT.out j z h hz hz2
       ·obtain rfl : j = k := by omega
        rw [HY.out] at hz
        obtain rfl := Option.some.inj hz
        rw [ht] at hz2
        exact absurd hz2 (by decide) : tgtN j z ≠ i))
      clear ht
      go_wp2
      go_roundw
      case measure => simp [intOf]; omega
      case rel => exact ⟨k + 1, by omega, by go_num, HE6.out, HNX.out⟩
     ·cases hq : (tgtN k y == (i : Int))
      ·have HNX := Hd (fun (j : Nat) (z : ID) (hj : j < k + 1) (hz : l[j]? = some z) (hz2 : tgtB j z = true) => (by
        rcases Nat.lt_or_ge j k with h | h
        ·exact HT.out j z h hz hz2
        ·obtain rfl : j = k := by omega
         rw [HY.out] at hz
         obtain rfl := Option.some.inj hz
         simpa using hq : tgtN j z ≠ i))
       clear ht
       go_wp2
       go_roundw
       case measure => simp [intOf]; omega
       case rel => exact ⟨k + 1, by omega, by go_num, HE6.out, HNX.out⟩
      ·have HB := Hd (begB_tgt HY.out ht (by simpa using hq))
       clear ht
       go_wp2
       go_ret
       exact ⟨ret_bn HB.out.symm, HE6.out.below⟩
    ·obtain rfl : k = n := by omega
     have HB := Hd (begB_none (by omega) HX.out HJF.out (fun j y hy => HT.out j y (by have := (List.getElem?_eq_some_iff.1 hy).1; rw [HL.out] at this; exact this) hy))
     go_wp2
     go_ret
     exact ⟨ret_bn HB.out.symm, HE.out.below⟩
end
end Go.Proofs.YtepagfkkjlbipaaGreat
