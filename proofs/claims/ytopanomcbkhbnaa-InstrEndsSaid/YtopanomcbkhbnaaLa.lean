/-
  The walk of InstrEnds: it answers true. Conditions: those written in each statement.
-/
import Derived.Test.YtopanomcbkhbnaaIc
import Derived.Test.YtopanomcbkhbnaaIf
namespace Go.Proofs.Ytopanomcbkhbnaa
open Go.RowKit
set_option linter.unusedVariables false
set_option linter.unusedSimpArgs false
/-- The box of the law, its instructions. -/
structure EF (c : Int) (A : Option Addr) (n cap : Nat) (l : List ID) (w W : World) : Prop where
  below : Below w.heap.size w W
  lt : w.heap.size < W.heap.size
  c0 : W.cell? ⟨w.heap.size, 0, none⟩ = some (.int .i64 c)
  c1 : W.cell? ⟨w.heap.size, 1, none⟩ = some (.slice A n cap)
  ins : InsAt W w.heap.size A n l
section
variable {c : Int} {A : Option Addr} {n cap : Nat} {l : List ID} {w W V : World}
theorem EF.step (h : EF c A n cap l w W) (hb : Below W.heap.size W V) : EF c A n cap l w V :=
  ⟨h.below.trans (hb.mono (Nat.le_of_lt h.lt)), Nat.lt_of_lt_of_le h.lt hb.size, (hb.cell (p := ⟨w.heap.size, 0, none⟩) h.lt).trans h.c0, (hb.cell (p := ⟨w.heap.size, 1, none⟩) h.lt).trans h.c1, h.ins.below (hb.mono (Nat.le_of_lt h.lt))⟩
theorem EF.new (hh : InsAt w w.heap.size A n l) : EF c A n cap l w (w.alloc (.cells #[.int .i64 c, .slice A n cap] 24)) :=
  ⟨(Below.refl _ _).alloc (Nat.le_refl _) _, by simp, by simp, by simp, hh.alloc (Nat.le_refl _) _⟩
theorem EF.all (h : EF c A n cap l w W) : InsAt W W.heap.size A n l := ⟨h.ins.1, h.ins.2.1, h.ins.2.2.more (Nat.le_of_lt h.lt)⟩
end
def EnRel (c : Int) (A : Option Addr) (n cap : Nat) (l : List ID) (w : World) (i : Value) (wr : World) : Prop := ∃ k : Nat, k ≤ n ∧ i = .int .i64 k ∧ EF c A n cap l w wr
theorem i8_range {x y : Int} : (x == y) = true ↔ x = y := by simp
set_option maxRecDepth 100000 in
set_option maxHeartbeats 4000000 in
theorem ends_walk (c : Int) (A : Option Addr) (n cap : Nat) (l : List ID) (w : World) (hh : InsAt w w.heap.size A n l) (hc : n ≤ cap) (hm : n < 9223372036854775808) :
    Calls Try.prog 3 #[.agg #[.int .i64 c, .slice A n cap]] w fun e w' => e = .returned (.bool true) ∧ Below w.heap.size w w' := by
  have HF := hide (EF.new (c := c) (cap := cap) hh)
  have HL := hide hh.1
  clear hh
  go_enter Try.func3, Try.ntmps3
  go_wp2_with fail
  refine (great_any c A n cap _ hm).mono ?_
  rintro e w1 ⟨rfl, hb⟩
  replace HF := hide (HF.out.step hb)
  clear hb
  cases hg : decide (100 < n)
  · have HG := hide hg
    clear hg
    have c0 := HF.out.c0
    have c1 := HF.out.c1
    go_wp2_with fail
    refine (check_any c A n cap l _ HF.out.all hc hm).mono ?_
    rintro e w2 ⟨rfl, hb⟩
    replace HF := hide (HF.out.step hb)
    clear hb c0 c1
    by_cases hok : (chkP c l).2 = 0
    · obtain ⟨hc0, hc1, hn0, hn1, hall, hlast, hP⟩ := chk_ok hok
      rw [hP]
      rw [HL.out] at hn0 hn1 hall
      have HALL := hide hall
      have HLAST := hide hlast
      clear hok hP hall hlast hc0 hc1
      have c1 := HF.out.c1
      go_wp2
      go_loopw [24] (fun i wr => EnRel c A n cap l w i wr) (fun i _ => n - (intOf i).toNat)
      case atStart => exact ⟨0, by omega, rfl, HF.out⟩
      case round =>
        obtain ⟨k, hk, rfl, hf⟩ := hrel
        have HFr := hide hf
        clear hf
        by_cases hlt : k < n
        · obtain ⟨ad, x, rfl, hab, hx, hxw, hcell⟩ := HFr.out.ins.at_ hlt
          have hokx := HALL.out k x hx
          unfold okAt at hokx
          simp only [Bool.and_eq_true, Bool.not_eq_true'] at hokx
          obtain ⟨hmx, htx⟩ := hokx
          have hkd := may_kind hmx
          have hrg := may_regs hmx
          have htg : tgtB k x = (x.kind == 3 || x.kind == 4) := by
            unfold tgtB
            rw [inB_iff.2 (show (-1099511627776 : Int) ≤ k ∧ (k : Int) ≤ 1099511627776 by omega), inB_iff.2 (show (-1099511627776 : Int) ≤ x.off ∧ x.off ≤ 1099511627776 by omega)]
            simp
          have hin : tgtB k x = true → 0 ≤ tgtN k x ∧ tgtN k x < n := by
            intro h
            rw [h] at htx
            simp only [Bool.true_and, Bool.not_eq_false'] at htx
            have := inB_iff.1 htx
            omega
          have hend : x.kind ≠ 4 → x.kind ≠ 6 → k + 1 < n := by
            intro h4 h6
            rcases Nat.lt_or_ge (k + 1) n with h | h
            · exact h
            · have hk1 : k = n - 1 := by omega
              have := HLAST.out
              unfold lastK at this
              rw [HL.out, ← hk1, hx] at this
              simp at this
              omega
          have HC := hide hcell
          have HW := hide hxw
          have HMX := hide hmx
          have hsz := HFr.out.lt
          obtain ⟨tb, htb⟩ : ∃ b, tgtB k x = b := ⟨_, rfl⟩
          obtain ⟨tn, htn⟩ : ∃ b, tgtN k x = b := ⟨_, rfl⟩
          obtain ⟨kv, hkv⟩ : ∃ v, x.kind = v := ⟨_, rfl⟩
          rw [htb, hkv] at htg
          rw [htb, htn] at hin
          rw [hkv] at hend
          have k7 : kv = 0 ∨ kv = 1 ∨ kv = 2 ∨ kv = 3 ∨ kv = 4 ∨ kv = 5 ∨ kv = 6 := by unfold KindOk at hkd; omega
          have HTB := hide htb
          have HTN := hide htn
          have HKV := hide hkv
          clear hx hxw hcell hmx htx hkd hrg htb htn hkv
          rcases k7 with rfl | rfl | rfl | rfl | rfl | rfl | rfl
          all_goals
            simp at htg
            subst htg
            try have hin' := hin rfl
            try (obtain ⟨t0, t1⟩ := hin')
            try have hend' : ((k : Int) + 1 < n) := by have := hend (by decide) (by decide); omega
            clear hin hend
            go_wp2_with (first
              | (refine wpList_load_at rfl 32 (.tmp 27) rfl (ad.add (k * 9)) rfl x.cells _ HC.out Try.underlying32 rfl sizI ?_)
              | (refine wpList_store_new rfl 32 (.tmp 6) (.tmp 28) rfl _ x.cells (.agg x.cells.toArray) (by rfl) (by rfl) rfl sizI (by rfl) x.one ?_
                 intro w3 X3 L3 S3
                 have HF3 := hide (HFr.out.step L3)
                 have HX3 := hide X3
                 have hg3 : wr.heap.size < w3.heap.size := by omega
                 clear X3 L3 S3)
              | (refine wpList_load_at rfl 32 (.tmp 6) rfl ⟨wr.heap.size, 0, none⟩ rfl x.cells _ (blk_list HX3.out) Try.underlying32 rfl sizI ?_)
              | fail)
            refine (target_any k x _).mono ?_
            rintro e w4 ⟨rfl, hb⟩
            rw [HTB.out, HTN.out]
            have HF4 := hide (HF3.out.step hb)
            have HX4 := hide (HX3.out.below hb hg3)
            have q4 : w4.cell? ⟨wr.heap.size, 0, none⟩ = some (.int .i8 x.kind) := HX4.out.cell 0
            rw [HKV.out] at q4
            have hg4 : wr.heap.size < w4.heap.size := HX4.out.lt
            clear hb
            go_wp2_with (refine wpList_load_at rfl 32 (.tmp 6) rfl ⟨wr.heap.size, 0, none⟩ rfl x.cells _ (blk_list HX4.out) Try.underlying32 rfl sizI ?_)
            refine (may_any x _ HW.out).mono ?_
            rintro e w5 ⟨rfl, hb⟩
            rw [HMX.out]
            have HF5 := hide (HF4.out.step hb)
            have q5 := (hb.cell (p := ⟨wr.heap.size, 0, none⟩) hg4).trans q4
            have c15 := HF5.out.c1
            clear hb q4 HF4 HX4 HF3 HX3 HC HW HMX HTB HTN HKV HALL HLAST HG c1 hg3 hg4 HF HFr hsz hab
            go_wp2_with fail
            go_roundw
            case measure => simp [intOf]; omega
            case rel => exact ⟨k + 1, by omega, by go_num, HF5.out⟩
        · obtain rfl : k = n := by omega
          have c1r := HFr.out.c1
          have hn0' : (0 : Int) < k := by omega
          go_wp2_with fail
          refine (wakes_any _).mono ?_
          rintro e w5 ⟨rfl, hb⟩
          replace HFr := hide (HFr.out.step hb)
          clear hb
          go_wp2
          go_ret
          exact ⟨rfl, HFr.out.below⟩
    · have hne : ((chkP c l).2 != 0) = true := by rw [bne_iff_ne]; exact hok
      generalize (chkP c l).2 = ee at *
      generalize (chkP c l).1 = pp at *
      clear hok
      go_wp2_with fail
      refine (wakes_any _).mono ?_
      rintro e w5 ⟨rfl, hb⟩
      replace HF := hide (HF.out.step hb)
      clear hb
      go_wp2
      go_ret
      exact ⟨rfl, HF.out.below⟩
  · go_wp2_with fail
    refine (wakes_any _).mono ?_
    rintro e w5 ⟨rfl, hb⟩
    replace HF := hide (HF.out.step hb)
    clear hb
    go_wp2
    go_ret
    exact ⟨rfl, HF.out.below⟩
end Go.Proofs.Ytopanomcbkhbnaa
