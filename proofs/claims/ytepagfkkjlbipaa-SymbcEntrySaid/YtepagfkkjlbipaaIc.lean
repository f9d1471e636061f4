/-
  instr.Target, instr.Check: where instructions lead, which programs may be. Conditions: those written in each statement.
-/
import Derived.Test.YtepagfkkjlbipaaLab
import Derived.Test.YtepagfkkjlbipaaKag
namespace Go.Proofs.Ytepagfkkjlbipaa
open Go.RowKit
set_option linter.unusedVariables false
set_option linter.unusedSimpArgs false
def TgtP (i : Int) (x : ID) (w : World) (e : Ending) (w' : World) : Prop := e = .returned (.tuple #[.int .i64 (tgtN i x), .bool (tgtB i x)]) ∧ Below w.heap.size w w'
theorem tgt_no {i : Int} {x : ID} (h : tgtB i x = false) : tgtN i x = 0 := by unfold tgtN; rw [h]; rfl
set_option maxRecDepth 100000 in
set_option maxHeartbeats 2000000 in
theorem target_any (i : Int) (x : ID) (w : World) : Calls Try.prog 34 #[.int .i64 i, .agg x.cells.toArray] w (TgtP i x w) := by
  obtain ⟨k, op, wd, sz, br, dst, src, off, imm⟩ := x
  show Calls Try.prog 34 #[.int .i64 i, .agg #[.int .i8 k, .int .i8 op, .int .i8 wd, .int .i8 sz, .bool br, .int .i8 dst, .int .i8 src, .int .i64 off, .int .i64 imm]] w _
  by_cases h3 : k = 3 ∨ k = 4
  · cases h1 : inB i (-1099511627776) 1099511627776
    · have hT : tgtB i ⟨k, op, wd, sz, br, dst, src, off, imm⟩ = false := by unfold tgtB; rw [h1]; simp
      have HT := hide hT
      clear hT
      rcases h3 with rfl | rfl
      all_goals
        go_enter Try.func34, Try.ntmps34
        go_wp2_with fail
        refine (within64 _ _ _ _).mono ?_; rintro e w' ⟨rfl, rfl⟩; rw [h1]
        go_wp2
        go_ret2
        exact ⟨by rw [tgt_no HT.out, HT.out]; rfl, (Below.refl _ _).alloc (Nat.le_refl _) _⟩
    · cases h2 : inB off (-1099511627776) 1099511627776
      · have hT : tgtB i ⟨k, op, wd, sz, br, dst, src, off, imm⟩ = false := by unfold tgtB; rw [h1, h2]; simp
        have HT := hide hT
        clear hT
        rcases h3 with rfl | rfl
        all_goals
          go_enter Try.func34, Try.ntmps34
          go_wp2_with fail
          refine (within64 _ _ _ _).mono ?_; rintro e w' ⟨rfl, rfl⟩; rw [h1]
          go_wp2_with fail
          refine (within64 _ _ _ _).mono ?_; rintro e w' ⟨rfl, rfl⟩; rw [h2]
          go_wp2
          go_ret2
          exact ⟨by rw [tgt_no HT.out, HT.out]; rfl, (Below.refl _ _).alloc (Nat.le_refl _) _⟩
      · obtain ⟨i0, i1⟩ := inB_iff.1 h1
        obtain ⟨o0, o1⟩ := inB_iff.1 h2
        have hT : tgtB i ⟨k, op, wd, sz, br, dst, src, off, imm⟩ = true := by unfold tgtB; rw [h1, h2]; rcases h3 with rfl | rfl <;> simp
        have hN : tgtN i ⟨k, op, wd, sz, br, dst, src, off, imm⟩ = i + 1 + off := by unfold tgtN; rw [hT]; rfl
        have HT := hide hT
        have HN := hide hN
        clear hT hN
        rcases h3 with rfl | rfl
        all_goals
          go_enter Try.func34, Try.ntmps34
          go_wp2_with fail
          refine (within64 _ _ _ _).mono ?_; rintro e w' ⟨rfl, rfl⟩; rw [h1]
          go_wp2_with fail
          refine (within64 _ _ _ _).mono ?_; rintro e w' ⟨rfl, rfl⟩; rw [h2]
          go_wp2
          go_ret2
          exact ⟨by rw [HN.out, HT.out]; rfl, (Below.refl _ _).alloc (Nat.le_refl _) _⟩
  · have hT : tgtB i ⟨k, op, wd, sz, br, dst, src, off, imm⟩ = false := by unfold tgtB; simp only [Bool.and_eq_false_iff]; left; left; simp; omega
    have HT := hide hT
    have b3 : (k != 3) = true := by rw [bne_iff_ne]; omega
    have b4 : (k != 4) = true := by rw [bne_iff_ne]; omega
    clear hT h3
    go_enter Try.func34, Try.ntmps34
    go_wp2
    go_ret2
    exact ⟨by rw [tgt_no HT.out, HT.out]; rfl, (Below.refl _ _).alloc (Nat.le_refl _) _⟩
def CkRel (c : Int) (l : List ID) (W : World) (A : Option Addr) (n : Nat) (sl : Value) (i : Value) (wr : World) : Prop :=
  ∃ k : Nat, k ≤ n ∧ i = .int .i64 k ∧ (∀ j x, j < k → l[j]? = some x → okAt n j x = true) ∧ InsAt wr W.heap.size A n l ∧ wr.cell? ⟨W.heap.size, 1, none⟩ = some sl ∧ Below W.heap.size W wr ∧ W.heap.size < wr.heap.size
def ChkP (c : Int) (l : List ID) (w : World) (e : Ending) (w' : World) : Prop := e = .returned (.tuple #[.int .i64 (chkP c l).1, .int .i64 (chkP c l).2]) ∧ Below w.heap.size w w'
set_option maxRecDepth 100000 in
set_option maxHeartbeats 4000000 in
theorem check_any (c : Int) (A : Option Addr) (n cap : Nat) (l : List ID) (w : World) (hh : InsAt w w.heap.size A n l) (hc : n ≤ cap) (hm : n < 9223372036854775808) :
    Calls Try.prog 33 #[.agg #[.int .i64 c, .slice A n cap]] w (ChkP c l w) := by
  have hl := hide hh.1
  have HH := hide hh
  clear hh
  cases h1 : inB c 0 256
  · have HC := hide (chk_ctx (l := l) h1)
    go_enter Try.func33, Try.ntmps33
    go_wp2_with fail
    refine (within64 _ _ _ _).mono ?_; rintro e w' ⟨rfl, rfl⟩; rw [h1]
    go_wp2
    go_ret2
    exact ⟨by rw [HC.out]; rfl, (Below.refl _ _).alloc (Nat.le_refl _) _⟩
  · cases h2 : inB ((n : Int) - 1) 0 63
    · have HC := hide (chk_long (l := l) h1 (by rw [hl.out]; exact h2))
      go_enter Try.func33, Try.ntmps33
      go_wp2_with fail
      refine (within64 _ _ _ _).mono ?_; rintro e w' ⟨rfl, rfl⟩; rw [h1]
      go_wp2_with fail
      refine (within64 _ _ _ _).mono ?_; rintro e w' ⟨rfl, rfl⟩; rw [h2]
      go_wp2
      go_ret2
      exact ⟨by rw [HC.out]; rfl, (Below.refl _ _).alloc (Nat.le_refl _) _⟩
    · have hn := inB_iff.1 h2
      have hn1 : 1 ≤ n := by omega
      have hn2 : n ≤ 64 := by omega
      have h2' := hide (show inB ((l.length : Int) - 1) 0 63 = true by rw [hl.out]; exact h2)
      have h1' := hide h1
      clear hn
      obtain ⟨iI, hiI, hzI, hsI, _⟩ := info_parts infI
      have II := hide (And.intro hiI (And.intro hzI hsI))
      clear hiI hzI hsI
      go_enter Try.func33, Try.ntmps33
      go_wp2_with fail
      refine (within64 _ _ _ _).mono ?_; rintro e w' ⟨rfl, rfl⟩; rw [h1]
      go_wp2_with fail
      refine (within64 _ _ _ _).mono ?_; rintro e w' ⟨rfl, rfl⟩; rw [h2]
      clear h1 h2
      go_wp2
      go_loopw [26] (fun i wr => CkRel c l w A n (.slice A n cap) i wr) (fun i _ => n - (intOf i).toNat)
      case atStart => exact ⟨0, by omega, rfl, by omega, HH.out.alloc (Nat.le_refl _) _, by simp, (Below.refl _ _).alloc (Nat.le_refl _) _, by simp⟩
      case round =>
        obtain ⟨k, hk, rfl, hok, hat, hc0, hbel, hsz⟩ := hrel
        have HB := hide hbel
        have HOK := hide hok
        have HAT := hide hat
        clear hbel hok hat
        by_cases hlt : k < n
        · obtain ⟨ad, x, rfl, hab, hx, hxw, hcell⟩ := HAT.out.at_ hlt
          have HX := hide hx
          have HC := hide hcell
          have HW := hide hxw
          clear hx hcell hxw
          obtain ⟨mb, hmb⟩ : ∃ b, mayB x = b := ⟨_, rfl⟩
          obtain ⟨tb, htb⟩ : ∃ b, tgtB k x = b := ⟨_, rfl⟩
          obtain ⟨tn, htn⟩ : ∃ b, tgtN k x = b := ⟨_, rfl⟩
          have HMB := hide hmb
          have HTB := hide htb
          have HTN := hide htn
          clear hmb htb htn
          have hinq : ∃ b, inB tn 0 ((n : Int) - 1) = b := ⟨_, rfl⟩
          obtain ⟨ib, hib⟩ := hinq
          have HIB := hide hib
          clear hib
          have hcs : mb = false ∨ (mb = true ∧ tb = false) ∨ (mb = true ∧ tb = true ∧ ib = false) ∨ (mb = true ∧ tb = true ∧ ib = true) := by cases mb <;> cases tb <;> cases ib <;> simp
          rcases hcs with rfl | ⟨rfl, rfl⟩ | ⟨rfl, rfl, rfl⟩ | ⟨rfl, rfl, rfl⟩
          all_goals
            go_wp2_with (first
              | (refine wpList_load_at rfl 26 (.tmp 29) rfl (ad.add (k * 9)) rfl x.cells _ HC.out Try.underlying26 rfl sizI ?_)
              | (refine wpList_store_new rfl 26 (.tmp 6) (.tmp 30) rfl _ x.cells (.agg x.cells.toArray) (by rfl) (by rfl) rfl sizI (by rfl) x.one ?_
                 intro w1 X1 L1 S1
                 have hg1 : wr.heap.size < w1.heap.size := by omega
                 have hc1 : w1.cell? ⟨w.heap.size, 1, none⟩ = some (.slice (some ad) n cap) := (L1.cell (p := ⟨w.heap.size, 1, none⟩) hsz).trans hc0
                 have HAT1 := hide (HAT.out.below (L1.mono (Nat.le_of_lt hsz)))
                 have HB1 := hide (HB.out.trans (L1.mono (Nat.le_of_lt hsz)))
                 have HX1 := hide X1
                 clear X1 L1 S1)
              | (go_at_call 54
                 refine (may_any x _ HW.out).mono ?_
                 rintro e w2 ⟨rfl, hb⟩
                 rw [HMB.out]
                 have hsz1 : w.heap.size < w1.heap.size := Nat.lt_trans hsz hg1
                 have hc2 : w2.cell? ⟨w.heap.size, 1, none⟩ = some (.slice (some ad) n cap) := (hb.cell (p := ⟨w.heap.size, 1, none⟩) hsz1).trans hc1
                 have HAT2 := hide (HAT1.out.below (hb.mono (Nat.le_of_lt hsz1)))
                 have HB2 := hide (HB1.out.trans (hb.mono (Nat.le_of_lt hsz1)))
                 have HX2 := hide (HX1.out.below hb hg1)
                 have hsz2 : w.heap.size < w2.heap.size := Nat.lt_of_lt_of_le hsz1 hb.size
                 clear hb hc1 HAT1 HB1 HX1)
              | (refine wpList_load_at rfl 26 (.tmp 6) rfl ⟨wr.heap.size, 0, none⟩ rfl x.cells _ (by first | exact blk_list HX2.out | exact blk_list HX1.out) Try.underlying26 rfl sizI ?_)
              | (go_at_call 34
                 refine (target_any k x _).mono ?_
                 rintro e w3 ⟨rfl, hb⟩
                 rw [HTB.out, HTN.out]
                 have hc3 : w3.cell? ⟨w.heap.size, 1, none⟩ = some (.slice (some ad) n cap) := (hb.cell (p := ⟨w.heap.size, 1, none⟩) hsz2).trans hc2
                 have HAT3 := hide (HAT2.out.below (hb.mono (Nat.le_of_lt hsz2)))
                 have HB3 := hide (HB2.out.trans (hb.mono (Nat.le_of_lt hsz2)))
                 have hsz3 : w.heap.size < w3.heap.size := Nat.lt_of_lt_of_le hsz2 hb.size
                 clear hb hc2 HAT2 HB2 HX2)
              | (go_at_call 53
                 refine (within64 _ _ _ _).mono ?_
                 rintro e w' ⟨rfl, rfl⟩
                 rw [HIB.out]))
            first
              | (go_ret2
                 have hbad : okAt n k x = false := by unfold okAt; rw [HMB.out]; first | rfl | (rw [HTB.out, HTN.out, HIB.out]; rfl)
                 have hp := chk_bad (c := c) h1'.out h2'.out HX.out (by rw [hl.out]; exact HOK.out) (by rw [hl.out]; exact hbad)
                 rw [HMB.out] at hp
                 exact ⟨by rw [hp]; rfl, by first | exact HB2.out | exact HB3.out⟩)
              | (have hgood : okAt n k x = true := by unfold okAt; rw [HMB.out]; first | (rw [HTB.out]; rfl) | (rw [HTB.out, HTN.out, HIB.out]; rfl)
                 have HGD := hide hgood
                 clear hgood
                 go_roundw
                 case measure => simp [intOf]; omega
                 case rel =>
                   refine ⟨k + 1, by omega, by go_num, fun j y hj hy => ?_, HAT3.out, hc3, HB3.out, hsz3⟩
                   rcases Nat.lt_or_ge j k with h | h
                   · exact HOK.out j y h hy
                   · obtain rfl : j = k := by omega
                     have := HX.out
                     rw [hy] at this
                     obtain rfl := Option.some.inj this
                     exact HGD.out)
        · obtain rfl : k = n := by omega
          have hk1 : k - 1 < k := by omega
          obtain ⟨ad, x, rfl, hab, hx, hxw, hcell⟩ := HAT.out.at_ hk1
          have hlast : lastK l = x.kind := by unfold lastK; rw [hl.out, hx]; rfl
          have hp := chk_end (c := c) h1'.out h2'.out (fun i y hy => by rw [hl.out]; exact HOK.out i y (by have := (List.getElem?_eq_some_iff.1 hy).1; have := hl.out; omega) hy)
          rw [hlast, hl.out] at hp
          have HP := hide hp
          have hkc : wr.cell? (ad.add ((k - 1) * 9)) = some (.int .i8 x.kind) := by
            have := hcell 0 _ rfl
            simpa [add_of_add] using this
          clear hcell hlast hp hx hxw hlt
          generalize hki : x.kind = ki at hkc ⊢
          rw [hki] at HP
          clear hki
          cases h4 : (ki != 4)
          all_goals
            cases h6 : (ki != 6)
            all_goals
              go_wp2
              go_ret2
              refine ⟨?_, HB.out⟩
              rw [HP.out]
              simp at h4 h6
              first
                | (rw [if_pos ⟨h4, h6⟩]; rfl)
                | (rw [if_neg (by simp [h4, h6])]; rfl)
end Go.Proofs.Ytepagfkkjlbipaa
