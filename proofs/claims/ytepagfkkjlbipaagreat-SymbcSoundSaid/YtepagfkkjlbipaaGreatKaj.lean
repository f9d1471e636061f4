/-
  Parts of the proof of SymbcSound. Conditions: those written in each statement.
-/
import Derived.Test.YtepagfkkjlbipaaGreatIa
import Derived.Test.YtepagfkkjlbipaaGreatKag
set_option linter.unusedVariables false
set_option linter.unusedSimpArgs false
set_option maxHeartbeats 64000000
set_option maxRecDepth 100000
namespace Go.Proofs.YtepagfkkjlbipaaGreat
open Tryz
section
open Go.RowKit
def argsN (n : Int) : Int := if inB n 0 15 then n % 6 else 0
theorem argsN_bd (n : Int) : 0 ≤ argsN n ∧ argsN n ≤ 5 := by
 unfold argsN
 split <;> omega
theorem args_any (n : Int) (w : World) : Calls prog 80 #[.int .i64 n] w fun e w' => e = .returned (.int .i64 (argsN n)) ∧ w = w' := by
 cases h : inB n 0 15
 ·have HN := Hd (show argsN n = 0 by unfold argsN; rw [h]; rfl)
  go_enter func80, ntmps80
  go_wp2_with fail
  refine (within64 _ _ _ _).mono ?_; rintro e w' ⟨rfl, rfl⟩; rw [h]
  go_wp2
  go_ret
  exact ⟨ret_ia HN.out.symm, rfl⟩
 ·obtain ⟨h0, h1⟩ := inB_iff.1 h
  have HN := Hd (show argsN n = n % 6 by unfold argsN; rw [h]; rfl)
  go_enter func80, ntmps80
  go_wp2_with fail
  refine (within64 _ _ _ _).mono ?_; rintro e w' ⟨rfl, rfl⟩; rw [h]
  go_wp2
  go_ret
  exact ⟨ret_ia HN.out.symm, rfl⟩
end
section
open Go.RowKit
def BoolP (b : Bool) (w : World) (e : Ending) (w' : World) : Prop := e = .returned (.bool b) ∧ Below w.heap.size w w'
theorem may_any (x : ID) (w : World) (hx : x.wf) : Calls prog 110 #[.agg x.cells.toArray] w (BoolP (mayB x) w) := by
 have hr := bareR_wf hx
 have hk := kz_wf hx.1
 have heq := eql_id hr hk
 obtain ⟨r, hR⟩ : ∃ r, bareR x = r := ⟨_, rfl⟩
 obtain ⟨m, hM⟩ : ∃ m, bareM x = m := ⟨_, rfl⟩
 obtain ⟨q, hQ⟩ : ∃ m, eqL (bareR x).cells (kz x.kind).cells = m := ⟨_, rfl⟩
 have hB : mayB x = (rngB x && (m && q)) := by unfold mayB; rw [hM, hQ]
 rw [hB]
 have HBA : ∀ W, Calls prog 156 #[.agg x.cells.toArray] W fun e w' => e = .returned (.tuple #[.agg r.cells.toArray, .bool m]) ∧ Below W.heap.size W w' := fun W => by
  have := bare_any x W
  unfold BareP at this
  rw [hR, hM] at this
  exact this
 simp only [hQ] at heq
 rw [hR] at heq
 have hrl : r.cells.length = 9 := rfl
 clear hr hk hB hM hQ hR
 obtain ⟨iI, hiI, hzI, hsI, _⟩ := info_parts infI
 have II := Hd (And.intro hiI (And.intro hzI hsI))
 clear hiI hzI hsI
 obtain ⟨k, op, wd, sz, br, dst, src, off, imm⟩ := x
 unfold rngB
 dsimp only
 have HB := Hd HBA
 have HE : ∀ W, (binOp .eql 47 (.agg r.cells.toArray) (.agg #[.int .i8 k, .int .i8 0, .int .i8 0, .int .i8 0, .bool false, .int .i8 0, .int .i8 0, .int .i64 0, .int .i64 0])).run prog W = .ok (.bool q) W := heq
 have HEH := Hd HE
 clear HBA heq hx HE
 cases h1 : inB dst 0 10
 ·show Calls prog 110 #[.agg #[.int .i8 k, .int .i8 op, .int .i8 wd, .int .i8 sz, .bool br, .int .i8 dst, .int .i8 src, .int .i64 off, .int .i64 imm]] w _
  go_enter func110, ntmps110
  go_wp2_with (first
   | (go_at_call 155; refine (within8 _ _ _ _).mono ?_; rintro e w' ⟨rfl, rfl⟩; first | rw [h1] | rw [h2]))
  go_ret
  exact ⟨rfl, (Below.refl _ _).alloc (Nat.le_refl _) _⟩
 ·cases h2 : inB src 0 10
  ·show Calls prog 110 #[.agg #[.int .i8 k, .int .i8 op, .int .i8 wd, .int .i8 sz, .bool br, .int .i8 dst, .int .i8 src, .int .i64 off, .int .i64 imm]] w _
   go_enter func110, ntmps110
   go_wp2_with fail
   refine (within8 _ _ _ _).mono ?_; rintro e w' ⟨rfl, rfl⟩; rw [h1]
   go_wp2_with fail
   refine (within8 _ _ _ _).mono ?_; rintro e w' ⟨rfl, rfl⟩; rw [h2]
   go_wp2
   go_ret
   exact ⟨rfl, (Below.refl _ _).alloc (Nat.le_refl _) _⟩
  ·cases h3 : inB off (-32768) 32767
   ·show Calls prog 110 #[.agg #[.int .i8 k, .int .i8 op, .int .i8 wd, .int .i8 sz, .bool br, .int .i8 dst, .int .i8 src, .int .i64 off, .int .i64 imm]] w _
    go_enter func110, ntmps110
    go_wp2_with fail
    refine (within8 _ _ _ _).mono ?_; rintro e w' ⟨rfl, rfl⟩; rw [h1]
    go_wp2_with fail
    refine (within8 _ _ _ _).mono ?_; rintro e w' ⟨rfl, rfl⟩; rw [h2]
    go_wp2_with fail
    refine (within64 _ _ _ _).mono ?_; rintro e w' ⟨rfl, rfl⟩; rw [h3]
    go_wp2
    go_ret
    exact ⟨rfl, (Below.refl _ _).alloc (Nat.le_refl _) _⟩
   ·cases h4 : inB imm (-2147483648) 2147483647
    ·show Calls prog 110 #[.agg #[.int .i8 k, .int .i8 op, .int .i8 wd, .int .i8 sz, .bool br, .int .i8 dst, .int .i8 src, .int .i64 off, .int .i64 imm]] w _
     go_enter func110, ntmps110
     go_wp2_with fail
     refine (within8 _ _ _ _).mono ?_; rintro e w' ⟨rfl, rfl⟩; rw [h1]
     go_wp2_with fail
     refine (within8 _ _ _ _).mono ?_; rintro e w' ⟨rfl, rfl⟩; rw [h2]
     go_wp2_with fail
     refine (within64 _ _ _ _).mono ?_; rintro e w' ⟨rfl, rfl⟩; rw [h3]
     go_wp2_with fail
     refine (within64 _ _ _ _).mono ?_; rintro e w' ⟨rfl, rfl⟩; rw [h4]
     go_wp2
     go_ret
     exact ⟨rfl, (Below.refl _ _).alloc (Nat.le_refl _) _⟩
    ·cases m
     all_goals
      show Calls prog 110 #[.agg #[.int .i8 k, .int .i8 op, .int .i8 wd, .int .i8 sz, .bool br, .int .i8 dst, .int .i8 src, .int .i64 off, .int .i64 imm]] w _
      go_enter func110, ntmps110
      go_wp2_with fail
      refine (within8 _ _ _ _).mono ?_; rintro e w' ⟨rfl, rfl⟩; rw [h1]
      go_wp2_with fail
      refine (within8 _ _ _ _).mono ?_; rintro e w' ⟨rfl, rfl⟩; rw [h2]
      go_wp2_with fail
      refine (within64 _ _ _ _).mono ?_; rintro e w' ⟨rfl, rfl⟩; rw [h3]
      go_wp2_with fail
      refine (within64 _ _ _ _).mono ?_; rintro e w' ⟨rfl, rfl⟩; rw [h4]
      go_wp2_with fail
      refine (HB.out _).mono ?_
      rintro e w1 ⟨rfl, hb⟩
      have hbb : Below w.heap.size w w1 := ((Below.refl _ _).alloc (Nat.le_refl _) _).trans (hb.mono (le_alloc _ (Nat.le_refl _)))
      have q0 : w1.cell? ⟨w.heap.size, 0, none⟩ = some (.int .i8 k) := by rw [hb.cell (by simp)]; simp
      have hlt : w.heap.size < w1.heap.size := by have := hb.size; simp at this; omega
      have HBB := Hd hbb
      clear hb hbb
      go_wp2_with (first
       | (refine wpList_new rfl rfl 47 (.tmp 3) (.tmp 30) rfl rfl iI _ (.agg r.cells.toArray) r.cells.toArray II.out.1 II.out.2.1 (by rw [II.out.2.2]; rfl) rfl (by rw [II.out.2.2]; rfl) (all_one r.one) (by rfl) (by rfl) ?_
          intro w2 g2 G2 X2 L2
          have q1 : w2.cell? ⟨w.heap.size, 0, none⟩ = some (.int .i8 k) := (L2.cell (p := ⟨w.heap.size, 0, none⟩) hlt).trans q0
          have HX2 := Hd X2
          have HB2 := Hd (HBB.out.trans (L2.mono (Nat.le_of_lt hlt)))
          have HE := HEH.out
          clear X2 L2 q0)
       | (refine wpList_load_atw (by rfl) 47 (.tmp 3) rfl ⟨g2, 0, none⟩ (by rfl) r.cells _ (blk_list HX2.out) underlying47 rfl sizI ?_))
      go_ret
      exact ⟨rfl, HB2.out⟩
end
section
open Go.RowKit
def TgtP (i : Int) (x : ID) (w : World) (e : Ending) (w' : World) : Prop := e = .returned (.tuple #[.int .i64 (tgtN i x), .bool (tgtB i x)]) ∧ Below w.heap.size w w'
theorem tgt_no {i : Int} {x : ID} (h : tgtB i x = false) : tgtN i x = 0 := by unfold tgtN; rw [h]; rfl
theorem target_any (i : Int) (x : ID) (w : World) : Calls prog 72 #[.int .i64 i, .agg x.cells.toArray] w (TgtP i x w) := by
 obtain ⟨k, op, wd, sz, br, dst, src, off, imm⟩ := x
 show Calls prog 72 #[.int .i64 i, .agg #[.int .i8 k, .int .i8 op, .int .i8 wd, .int .i8 sz, .bool br, .int .i8 dst, .int .i8 src, .int .i64 off, .int .i64 imm]] w _
 by_cases h3 : k = 3 ∨ k = 4
 ·cases h1 : inB i (-1099511627776) 1099511627776
  ·have hT : tgtB i ⟨k, op, wd, sz, br, dst, src, off, imm⟩ = false := by unfold tgtB; rw [h1]; simp
   have HT := Hd hT
   clear hT
   rcases h3 with rfl | rfl
   all_goals
    go_enter func72, ntmps72
    go_wp2_with fail
    refine (within64 _ _ _ _).mono ?_; rintro e w' ⟨rfl, rfl⟩; rw [h1]
    go_wp2
    go_ret2
    exact ⟨by rw [tgt_no HT.out, HT.out]; rfl, (Below.refl _ _).alloc (Nat.le_refl _) _⟩
  ·cases h2 : inB off (-1099511627776) 1099511627776
   ·have hT : tgtB i ⟨k, op, wd, sz, br, dst, src, off, imm⟩ = false := by unfold tgtB; rw [h1, h2]; simp
    have HT := Hd hT
    clear hT
    rcases h3 with rfl | rfl
    all_goals
     go_enter func72, ntmps72
     go_wp2_with fail
     refine (within64 _ _ _ _).mono ?_; rintro e w' ⟨rfl, rfl⟩; rw [h1]
     go_wp2_with fail
     refine (within64 _ _ _ _).mono ?_; rintro e w' ⟨rfl, rfl⟩; rw [h2]
     go_wp2
     go_ret2
     exact ⟨by rw [tgt_no HT.out, HT.out]; rfl, (Below.refl _ _).alloc (Nat.le_refl _) _⟩
   ·obtain ⟨i0, i1⟩ := inB_iff.1 h1
    obtain ⟨o0, o1⟩ := inB_iff.1 h2
    have hT : tgtB i ⟨k, op, wd, sz, br, dst, src, off, imm⟩ = true := by unfold tgtB; rw [h1, h2]; rcases h3 with rfl | rfl <;> simp
    have hN : tgtN i ⟨k, op, wd, sz, br, dst, src, off, imm⟩ = i + 1 + off := by unfold tgtN; rw [hT]; rfl
    have HT := Hd hT
    have HN := Hd hN
    clear hT hN
    rcases h3 with rfl | rfl
    all_goals
     go_enter func72, ntmps72
     go_wp2_with fail
     refine (within64 _ _ _ _).mono ?_; rintro e w' ⟨rfl, rfl⟩; rw [h1]
     go_wp2_with fail
     refine (within64 _ _ _ _).mono ?_; rintro e w' ⟨rfl, rfl⟩; rw [h2]
     go_wp2
     go_ret2
     exact ⟨by rw [HN.out, HT.out]; rfl, (Below.refl _ _).alloc (Nat.le_refl _) _⟩
 ·have hT : tgtB i ⟨k, op, wd, sz, br, dst, src, off, imm⟩ = false := by unfold tgtB; simp only [Bool.and_eq_false_iff]; left; left; simp; omega
  have HT := Hd hT
  have b3 : (k != 3) = true := by rw [bne_iff_ne]; omega
  have b4 : (k != 4) = true := by rw [bne_iff_ne]; omega
  clear hT h3
  go_enter func72, ntmps72
  go_wp2
  go_ret2
  exact ⟨by rw [tgt_no HT.out, HT.out]; rfl, (Below.refl _ _).alloc (Nat.le_refl _) _⟩
def CkRel (c : Int) (l : List ID) (W : World) (A : Option Addr) (n : Nat) (sl : Value) (i : Value) (wr : World) : Prop :=
 ∃ k : Nat, k ≤ n ∧ i = .int .i64 k ∧ (∀ j x, j < k → l[j]? = some x → okAt n j x = true) ∧ InsAt wr W.heap.size A n l ∧ wr.cell? ⟨W.heap.size, 1, none⟩ = some sl ∧ Below W.heap.size W wr ∧ W.heap.size < wr.heap.size
def ChkP (c : Int) (l : List ID) (w : World) (e : Ending) (w' : World) : Prop := e = .returned (.tuple #[.int .i64 (chkP c l).1, .int .i64 (chkP c l).2]) ∧ Below w.heap.size w w'
theorem check_any (c : Int) (A : Option Addr) (n cap : Nat) (l : List ID) (w : World) (hh : InsAt w w.heap.size A n l) (hc : n ≤ cap) (hm : n < 9223372036854775808) :
  Calls prog 71 #[.agg #[.int .i64 c, .slice A n cap]] w (ChkP c l w) := by
 have hl := Hd hh.1
 have HH := Hd hh
 clear hh
 cases h1 : inB c 0 256
 ·have HC := Hd (chk_ctx (l := l) h1)
  go_enter func71, ntmps71
  go_wp2_with fail
  refine (within64 _ _ _ _).mono ?_; rintro e w' ⟨rfl, rfl⟩; rw [h1]
  go_wp2
  go_ret2
  exact ⟨by rw [HC.out]; rfl, (Below.refl _ _).alloc (Nat.le_refl _) _⟩
 ·cases h2 : inB ((n : Int) - 1) 0 63
  ·have HC := Hd (chk_long (l := l) h1 (by rw [hl.out]; exact h2))
   go_enter func71, ntmps71
   go_wp2_with fail
   refine (within64 _ _ _ _).mono ?_; rintro e w' ⟨rfl, rfl⟩; rw [h1]
   go_wp2_with fail
   refine (within64 _ _ _ _).mono ?_; rintro e w' ⟨rfl, rfl⟩; rw [h2]
   go_wp2
   go_ret2
   exact ⟨by rw [HC.out]; rfl, (Below.refl _ _).alloc (Nat.le_refl _) _⟩
  ·have hn := inB_iff.1 h2
   have hn1 : 1 ≤ n := by omega
   have hn2 : n ≤ 64 := by omega
   have h2' := Hd (show inB ((l.length : Int) - 1) 0 63 = true by rw [hl.out]; exact h2)
   have h1' := Hd h1
   clear hn
   obtain ⟨iI, hiI, hzI, hsI, _⟩ := info_parts infI
   have II := Hd (And.intro hiI (And.intro hzI hsI))
   clear hiI hzI hsI
   go_enter func71, ntmps71
   go_wp2_with fail
   refine (within64 _ _ _ _).mono ?_; rintro e w' ⟨rfl, rfl⟩; rw [h1]
   go_wp2_with fail
   refine (within64 _ _ _ _).mono ?_; rintro e w' ⟨rfl, rfl⟩; rw [h2]
   clear h1 h2
   go_wp2
   go_loopw [26] (fun i wr => CkRel c l w A n (.slice A n cap) i wr) (fun i _ => n - (intOf i).toNat)
   case atStart => exact ⟨0, by omega, rfl, by omega, HH.out.alloc (Nat.le_refl _) _, by simp, (Below.refl _ _).alloc (Nat.le_refl _) _, by simp⟩
   case round =>
    obtain ⟨k, hk, rfl, hok, hat, hc0, hbel, hsz⟩ := hrel
    have HB := Hd hbel
    have HOK := Hd hok
    have HAT := Hd hat
    clear hbel hok hat
    by_cases hlt : k < n
    ·obtain ⟨ad, x, rfl, hab, hx, hxw, hcell⟩ := HAT.out.at_ hlt
     have HX := Hd hx
     have HC := Hd hcell
     have HW := Hd hxw
     clear hx hcell hxw
     obtain ⟨mb, hmb⟩ : ∃ b, mayB x = b := ⟨_, rfl⟩
     obtain ⟨tb, htb⟩ : ∃ b, tgtB k x = b := ⟨_, rfl⟩
     obtain ⟨tn, htn⟩ : ∃ b, tgtN k x = b := ⟨_, rfl⟩
     have HMB := Hd hmb
     have HTB := Hd htb
     have HTN := Hd htn
     clear hmb htb htn
     have hinq : ∃ b, inB tn 0 ((n : Int) - 1) = b := ⟨_, rfl⟩
     obtain ⟨ib, hib⟩ := hinq
     have HIB := Hd hib
     clear hib
     have hcs : mb = false ∨ (mb = true ∧ tb = false) ∨ (mb = true ∧ tb = true ∧ ib = false) ∨ (mb = true ∧ tb = true ∧ ib = true) := by cases mb <;> cases tb <;> cases ib <;> simp
     rcases hcs with rfl | ⟨rfl, rfl⟩ | ⟨rfl, rfl, rfl⟩ | ⟨rfl, rfl, rfl⟩
     all_goals
      go_wp2_with (first
       | (refine wpList_load_at rfl 47 (.tmp 29) rfl (ad.add (k * 9)) rfl x.cells _ HC.out underlying47 rfl sizI ?_)
       | (refine wpList_store_new rfl 47 (.tmp 6) (.tmp 30) rfl _ x.cells (.agg x.cells.toArray) (by rfl) (by rfl) rfl sizI (by rfl) x.one ?_
          intro w1 X1 L1 S1
          have hg1 : wr.heap.size < w1.heap.size := by omega
          have hc1 : w1.cell? ⟨w.heap.size, 1, none⟩ = some (.slice (some ad) n cap) := (L1.cell (p := ⟨w.heap.size, 1, none⟩) hsz).trans hc0
          have HAT1 := Hd (HAT.out.below (L1.mono (Nat.le_of_lt hsz)))
          have HB1 := Hd (HB.out.trans (L1.mono (Nat.le_of_lt hsz)))
          have HX1 := Hd X1
          clear X1 L1 S1)
       | (go_at_call 110
          refine (may_any x _ HW.out).mono ?_
          rintro e w2 ⟨rfl, hb⟩
          rw [HMB.out]
          have hsz1 : w.heap.size < w1.heap.size := Nat.lt_trans hsz hg1
          have hc2 : w2.cell? ⟨w.heap.size, 1, none⟩ = some (.slice (some ad) n cap) := (hb.cell (p := ⟨w.heap.size, 1, none⟩) hsz1).trans hc1
          have HAT2 := Hd (HAT1.out.below (hb.mono (Nat.le_of_lt hsz1)))
          have HB2 := Hd (HB1.out.trans (hb.mono (Nat.le_of_lt hsz1)))
          have HX2 := Hd (HX1.out.below hb hg1)
          have hsz2 : w.heap.size < w2.heap.size := Nat.lt_of_lt_of_le hsz1 hb.size
          clear hb hc1 HAT1 HB1 HX1)
       | (refine wpList_load_at rfl 47 (.tmp 6) rfl ⟨wr.heap.size, 0, none⟩ rfl x.cells _ (by first | exact blk_list HX2.out | exact blk_list HX1.out) underlying47 rfl sizI ?_)
       | (go_at_call 72
          refine (target_any k x _).mono ?_
          rintro e w3 ⟨rfl, hb⟩
          rw [HTB.out, HTN.out]
          have hc3 : w3.cell? ⟨w.heap.size, 1, none⟩ = some (.slice (some ad) n cap) := (hb.cell (p := ⟨w.heap.size, 1, none⟩) hsz2).trans hc2
          have HAT3 := Hd (HAT2.out.below (hb.mono (Nat.le_of_lt hsz2)))
          have HB3 := Hd (HB2.out.trans (hb.mono (Nat.le_of_lt hsz2)))
          have hsz3 : w.heap.size < w3.heap.size := Nat.lt_of_lt_of_le hsz2 hb.size
          clear hb hc2 HAT2 HB2 HX2)
       | (go_at_call 109
          refine (within64 _ _ _ _).mono ?_
          rintro e w' ⟨rfl, rfl⟩
          rw [HIB.out]))
      first
       | (go_ret2
          have hbad : okAt n k x = false := by unfold okAt; rw [HMB.out]; first | rfl | (rw [HTB.out, HTN.out, HIB.out]; rfl)
          have hp := chk_bad (c := c) h1'.out h2'.out HX.out (by rw [hl.out]; exact HOK.out) (by rw [hl.out]; exact hbad)
          rw [HMB.out] at hp
          exact ⟨by rw [hp]; rfl, by first | exact HB2.out | exact HB3.out⟩)
       | (have hgood : okAt n k x = true := by unfold okAt; rw [HMB.out]; first | (rw [HTB.out]; rfl) | (rw [HTB.out, HTN.out, HIB.out]; rfl)
          have HGD := Hd hgood
          clear hgood
          go_roundw
          case measure => simp [intOf]; omega
          case rel =>
           refine ⟨k + 1, by omega, by go_num, fun j y hj hy => ?_, HAT3.out, hc3, HB3.out, hsz3⟩
           rcases Nat.lt_or_ge j k with h | h
           ·exact HOK.out j y h hy
           ·obtain rfl : j = k := by omega
            have := HX.out
            rw [hy] at this
            obtain rfl := Option.some.inj this
            exact HGD.out)
    ·obtain rfl : k = n := by omega
     have hk1 : k - 1 < k := by omega
     obtain ⟨ad, x, rfl, hab, hx, hxw, hcell⟩ := HAT.out.at_ hk1
     have hlast : lastK l = x.kind := by unfold lastK; rw [hl.out, hx]; rfl
     have hp := chk_end (c := c) h1'.out h2'.out (fun i y hy => by rw [hl.out]; exact HOK.out i y (by have := (List.getElem?_eq_some_iff.1 hy).1; have := hl.out; omega) hy)
     rw [hlast, hl.out] at hp
     have HP := Hd hp
     have hkc : wr.cell? (ad.add ((k - 1) * 9)) = some (.int .i8 x.kind) := by
      have := hcell 0 _ rfl
      simpa [add_of_add] using this
     clear hcell hlast hp hx hxw hlt
     generalize hki : x.kind = ki at hkc ⊢
     rw [hki] at HP
     clear hki
     cases h4 : (ki != 4)
     all_goals
      cases h6 : (ki != 6)
      all_goals
       go_wp2
       go_ret2
       refine ⟨?_, HB.out⟩
       rw [HP.out]
       simp at h4 h6
       first
        | (rw [if_pos ⟨h4, h6⟩]; rfl)
        | (rw [if_neg (by simp [h4, h6])]; rfl)
end
section
open Go.RowKit
def Rng (x : ID) : Prop := 0 ≤ x.dst ∧ x.dst ≤ 10 ∧ 0 ≤ x.src ∧ x.src ≤ 10 ∧ -32768 ≤ x.off ∧ x.off ≤ 32767 ∧ -2147483648 ≤ x.imm ∧ x.imm ≤ 2147483647
def MayK (x : ID) : Prop :=
 (x.kind = 0 ∧ 0 ≤ x.op ∧ x.op ≤ 12 ∧ (x.width = 32 ∨ x.width = 64) ∧ x.dst < 10 ∧ x.size = 0 ∧ x.off = 0 ∧ ((x.byReg = true ∧ x.op ≠ 8 ∧ x.imm = 0) ∨ (x.byReg = false ∧ x.src = 0 ∧ (x.op = 8 → x.imm = 0))))
 ∨ (x.kind = 1 ∧ (x.size = 1 ∨ x.size = 2 ∨ x.size = 4 ∨ x.size = 8) ∧ x.dst < 10 ∧ x.op = 0 ∧ x.width = 0 ∧ x.byReg = false ∧ x.imm = 0)
 ∨ (x.kind = 2 ∧ (x.size = 1 ∨ x.size = 2 ∨ x.size = 4 ∨ x.size = 8) ∧ x.op = 0 ∧ x.width = 0 ∧ x.byReg = false ∧ x.imm = 0)
 ∨ (x.kind = 3 ∧ 0 ≤ x.op ∧ x.op ≤ 10 ∧ x.width = 0 ∧ x.size = 0 ∧ ((x.byReg = true ∧ x.imm = 0) ∨ (x.byReg = false ∧ x.src = 0)))
 ∨ (x.kind = 4 ∧ x.op = 0 ∧ x.width = 0 ∧ x.size = 0 ∧ x.byReg = false ∧ x.dst = 0 ∧ x.src = 0 ∧ x.imm = 0)
 ∨ (x.kind = 5 ∧ x.op = 0 ∧ x.width = 0 ∧ x.size = 0 ∧ x.byReg = false ∧ x.dst = 0 ∧ x.src = 0 ∧ x.off = 0 ∧ 0 ≤ x.imm ∧ x.imm ≤ 15)
 ∨ (x.kind = 6 ∧ x.op = 0 ∧ x.width = 0 ∧ x.size = 0 ∧ x.byReg = false ∧ x.dst = 0 ∧ x.src = 0 ∧ x.off = 0 ∧ x.imm = 0)
theorem rng_iff (x : ID) : rngB x = true ↔ Rng x := by
 unfold rngB Rng
 simp only [Bool.and_eq_true, inB_iff]
 omega
theorem mayk_iff (x : ID) : (bareM x && eqL (bareR x).cells (kz x.kind).cells) = true ↔ MayK x := by
 obtain ⟨k, op, wd, sz, br, dst, src, off, imm⟩ := x
 unfold MayK bareM bareR immR kz ID.cells
 dsimp only
 by_cases h0 : k = 0
 ·subst h0
  cases br <;> simp [eqL, eqV, inB] <;> omega
 by_cases h1 : k = 1
 ·subst h1
  cases br <;> simp [eqL, eqV, inB, szB] <;> omega
 by_cases h2 : k = 2
 ·subst h2
  cases br <;> simp [eqL, eqV, inB, szB] <;> omega
 by_cases h3 : k = 3
 ·subst h3
  cases br <;> simp [eqL, eqV, inB] <;> omega
 by_cases h4 : k = 4
 ·subst h4
  cases br <;> simp [eqL, eqV, inB] <;> omega
 by_cases h5 : k = 5
 ·subst h5
  cases br <;> simp [eqL, eqV, inB] <;> omega
 by_cases h6 : k = 6
 ·subst h6
  cases br <;> simp [eqL, eqV, inB] <;> omega
 ·simp [h0, h1, h2, h3, h4, h5, h6]
theorem may_iff (x : ID) : mayB x = true ↔ Rng x ∧ MayK x := by
 unfold mayB
 rw [Bool.and_eq_true, rng_iff, mayk_iff]
theorem eq_id_iff {x y : ID} (hx : x.wf) (hy : y.wf) : eqL x.cells y.cells = true ↔ x = y := by
 rw [eqL_iff instrK _ _ (ID.all hx) (ID.all hy)]
 exact ⟨ID.cells_inj, fun h => by rw [h]⟩
end
end Go.Proofs.YtepagfkkjlbipaaGreat
