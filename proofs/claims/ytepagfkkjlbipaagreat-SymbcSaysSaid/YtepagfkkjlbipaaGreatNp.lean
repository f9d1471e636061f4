/-
  Contract of Op's law 9. Conditions: those written in each statement.
-/
import Derived.Test.YtepagfkkjlbipaaGreatNn
import Derived.BigQuiet
import Derived.Deep.QuietTactic
import Derived.Test.YtepagfkkjlbipaaGreatKag
namespace Go.Proofs.YtepagfkkjlbipaaGreat
open Go.RowKit
set_option linter.unusedVariables false
set_option linter.unusedSimpArgs false
set_option maxRecDepth 100000
section
variable {base f g : Nat} {op x a b c d : Int} {lf rt tn sh : Bool} {b5 b6 b7 b8 b9 b15 b17 b18 b19 b20 b21 b22 b23 b24 : Nat} {F : Nat → Prop} {W : World} {p : PS} {r : RS}
set_option maxHeartbeats 40000000 in
theorem law9_any (hE : OpE g op x a b c d lf rt tn sh b5 b6 b7 b8 b9 b15 b17 b18 b19 b20 b21 b22 b23 b24 F W) (hp : PoolAt W base F g p) (hbase : base ≤ W.heap.size) (hx : x = 32 ∨ x = 64) (hsh : shiftsB op = sh) (hn : I64 a) (hr : (rt && sameB op x d) = true → zextF f p x a = some r) :
  Calls Tryz.prog 132 #[.pointer (some ⟨b19, 0, none⟩), .pointer (some ⟨b6, 0, none⟩), .pointer (some ⟨b24, 0, none⟩), .pointer (some ⟨b7, 0, none⟩), .pointer (some ⟨b20, 0, none⟩), .pointer (some ⟨b22, 0, none⟩), .pointer (some ⟨b8, 0, none⟩)] W fun e w' => ((rt && sameB op x d) = false ∧ e = .returned (.tuple #[.int .i64 0, .bool false, .int .i64 0]) ∧ Below W.heap.size W w') ∨ ((rt && sameB op x d) = true ∧ ∃ n m, e = .returned (.tuple #[.int .i64 n, .bool true, .int .i64 m]) ∧ RR base g F W r n m w') := by
 have HX := hide (show x = 8 ∨ x = 16 ∨ x = 32 ∨ x = 64 by omega)
 have hw1 : IntKind.i8.wrap (x - 1) = x - 1 := by rcases hx with rfl | rfl <;> decide
 have hw2 : IntKind.u64.wrap (x - 1) = x - 1 := by rcases hx with rfl | rfl <;> decide
 obtain ⟨S, hS⟩ : ∃ S, sameB op x d = S := ⟨_, rfl⟩
 rw [hS] at hr ⊢
 have HS := hide hS
 have HSH := hide hsh
 have HB := hide hbase
 have HRI := hide hr
 have HN := hide hn
 have HE := hide hE
 have HP := hide hp
 have HP0 := hide (PG.refl hp)
 have HL0 := hide (Below.refl W.heap.size W)
 clear hE hp hx hS hsh hbase hr hn
 go_enter Tryz.func132, Tryz.ntmps132
 go_upto_region 1 with fail
 go_cut [10] from 11 to 57 (fun sv wc => sv = .bool S ∧ PG base g F W F p wc ∧ Below W.heap.size W wc)
 case first =>
  clear HRI HB HN HX
  obtain ⟨M, hM⟩ : ∃ M, cutV x 18446744073709551615 = M := ⟨_, rfl⟩
  have HM := hide hM
  have HCM := hide (fun W => by have := cut_any 18446744073709551615 x W; rw [hM] at this; exact this : ∀ W, Calls Tryz.prog 97 #[.int .u64 18446744073709551615, .int .i8 x] W fun e w' => e = .returned (.int .u64 M) ∧ W = w')
  clear hM
  have c19 := HE.out.e19.1.cell 0
  have c6 := HE.out.e6.1.cell 0
  have c24 := HE.out.e24.1.cell 0
  have c7 := HE.out.e7.1.cell 0
  simp at c19 c6 c24 c7
  cases hd : (d == 0)
  ·skip
   cases sh
   ·skip
    cases h2 : (op == 2)
    ·skip
     cases h5 : (op == 5)
     ·skip
      go_wp2_with fail
      go_quiet ((go_at_call 97; refine Calls.quiet_of_same (HCM.out _)))
      go_wp2
      go_meet
      case rel => exact ⟨by rw [← HS.out, show sameB op x d = false by unfold sameB; rw [HSH.out, HM.out]; simp [hd, h2, h5]], HP0.out.step (below_drewN (Below.refl _ _) nq), HL0.out.trans ((below_drewN (Below.refl _ _) nq).mono HL0.out.size)⟩
     ·skip
      cases hc : (d == M)
      ·skip
       refine wp_region_E (fun w' => Blk w' b19 31 #[.int .u64 d] ∧ Blk w' b6 30 #[.int .i8 op] ∧ Blk w' b24 4 #[.bool false] ∧ Blk w' b7 30 #[.int .i8 x]) (fun _ => True) [] (by kernel_rfl) ?_
       have HPd := hide (HP0.out.step ((Below.refl _ _).drew))
       have HL := hide (HL0.out.trans (((Below.refl _ _).drew).mono HL0.out.size))
       have HT := hide (⟨(HPd.out.blk HE.out.e19.1 HE.out.e19.2).1, (HPd.out.blk HE.out.e6.1 HE.out.e6.2).1, (HPd.out.blk HE.out.e24.1 HE.out.e24.2).1, (HPd.out.blk HE.out.e7.1 HE.out.e7.2).1⟩ : Blk W.drew b19 31 #[.int .u64 d] ∧ Blk W.drew b6 30 #[.int .i8 op] ∧ Blk W.drew b24 4 #[.bool false] ∧ Blk W.drew b7 30 #[.int .i8 x])
       clear HP0 HL0 c19 c6 c24 c7
       generalize W.drew = Wd at HT HPd HL ⊢
       refine el false 0 ⟨b19, 0, none⟩ (.int .u64 d) Tryz.underlying31 (fun w hS => (hS.1.1.cell 0)) (.both HT.out trivial) ?_
       simp only [sL]
       refine eg 1 (.bool false) (.both HT.out trivial) ?_
       simp only [sL]
       refine em 2 (.bool false) (.both HT.out trivial) ?_
       simp only [sL]
       refine en 3 (.both HT.out trivial) ?_
       simp only [sL]
       refine en 4 (.both HT.out trivial) ?_
       simp only [sL]
       refine en 5 (.both HT.out trivial) ?_
       simp only [sL]
       refine en 6 (.both HT.out trivial) ?_
       simp only [sL]
       refine en 7 (.both HT.out trivial) ?_
       simp only [sL]
       refine en 8 (.both HT.out trivial) ?_
       simp only [sL]
       refine en 9 (.both HT.out trivial) ?_
       simp only [sL]
       refine en 10 (.both HT.out trivial) ?_
       simp only [sL]
       refine en 11 (.both HT.out trivial) ?_
       simp only [sL]
       refine en 12 (.both HT.out trivial) ?_
       simp only [sL]
       refine en 13 (.both HT.out trivial) ?_
       simp only [sL]
       refine en 14 (.both HT.out trivial) ?_
       simp only [sL]
       refine en 15 (.both HT.out trivial) ?_
       simp only [sL]
       refine en 16 (.both HT.out trivial) ?_
       simp only [sL]
       refine ep 17 false (.bool false) (.both HT.out trivial) ?_
       simp only [sL]
       refine em 18 (.bool false) (.both HT.out trivial) ?_
       simp only [sL]
       refine el false 19 ⟨b24, 0, none⟩ (.bool false) Tryz.underlying4 (fun w hS => (hS.1.2.2.1.cell 0)) (.both HT.out trivial) ?_
       simp only [sL]
       refine em 20 (.bool false) (.both HT.out trivial) ?_
       simp only [sL]
       refine en 21 (.both HT.out trivial) ?_
       simp only [sL]
       refine en 22 (.both HT.out trivial) ?_
       simp only [sL]
       refine en 23 (.both HT.out trivial) ?_
       simp only [sL]
       refine en 24 (.both HT.out trivial) ?_
       simp only [sL]
       refine en 25 (.both HT.out trivial) ?_
       simp only [sL]
       refine en 26 (.both HT.out trivial) ?_
       simp only [sL]
       refine ep 27 false (.bool false) (.both HT.out trivial) ?_
       simp only [sL]
       refine ep 28 false (.bool false) (.both HT.out trivial) ?_
       simp only [sL]
       refine em 29 (.bool false) (.both HT.out trivial) ?_
       simp only [sL]
       refine el false 30 ⟨b6, 0, none⟩ (.int .i8 op) Tryz.underlying30 (fun w hS => (hS.1.2.1.cell 0)) (.both HT.out trivial) ?_
       simp only [sL]
       refine eg 31 (.bool false) (.both HT.out trivial) ?_
       simp only [sL]
       refine em 32 (.bool false) (.both HT.out trivial) ?_
       simp only [sL]
       refine en 33 (.both HT.out trivial) ?_
       simp only [sL]
       refine en 34 (.both HT.out trivial) ?_
       simp only [sL]
       refine ep 35 false (.bool false) (.both HT.out trivial) ?_
       simp only [sL]
       refine ep 36 false (.bool false) (.both HT.out trivial) ?_
       simp only [sL]
       refine em 37 (.bool false) (.both HT.out trivial) ?_
       simp only [sL]
       refine el false 38 ⟨b6, 0, none⟩ (.int .i8 op) Tryz.underlying30 (fun w hS => (hS.1.2.1.cell 0)) (.both HT.out trivial) ?_
       simp only [sL]
       refine eg 39 (.bool true) (.both HT.out trivial) ?_
       simp only [sL]
       refine em 40 (.bool true) (.both HT.out trivial) ?_
       simp only [sL]
       refine el false 41 ⟨b19, 0, none⟩ (.int .u64 d) Tryz.underlying31 (fun w hS => (hS.1.1.cell 0)) (.both HT.out trivial) ?_
       simp only [sL]
       refine el false 42 ⟨b7, 0, none⟩ (.int .i8 x) Tryz.underlying30 (fun w hS => (hS.1.2.2.2.cell 0)) (.both HT.out trivial) ?_
       simp only [sL]
       refine E_one 43 (by kernel_rfl) (StepE.of 43 (some 54) _ rfl (by rfl) fun o K h2 h3 hKK => ?_)
       unfold Oper.wp execOp
       simp only [h3]
       go_simp
       refine (HCM.out _).mono ?_
       rintro e w' ⟨rfl, rfl⟩
       dsimp only
       refine hKK _ _ (.both HT.out trivial) ?_
       clear hKK h2 h3 K o
       try simp only [pt, pn, sL]
       refine eg 44 (.bool false) (.both HT.out trivial) ?_
       simp only [sL]
       refine ep 45 true (.bool false) (.both HT.out trivial) ?_
       simp only [sL]
       refine ep 46 false (.bool false) (.both HT.out trivial) ?_
       simp only [sL]
       refine E_one 47 (by kernel_rfl) (StepE.assign 47 (some 10) _ (.bool false) rfl (by rfl) (by rfl) (.both HT.out trivial) ?_)
       simp only [pt, pn, sL]
       refine wpAnyE_done (by kernel_rfl) ?_ _
       go_wp2
       go_meet
       case rel => exact ⟨by rw [← HS.out, show sameB op x d = false by unfold sameB; rw [HSH.out, HM.out]; simp [hd, h2, h5, hc]], HPd.out, HL.out⟩
      ·skip
       refine wp_region_E (fun w' => Blk w' b19 31 #[.int .u64 d] ∧ Blk w' b6 30 #[.int .i8 op] ∧ Blk w' b24 4 #[.bool false] ∧ Blk w' b7 30 #[.int .i8 x]) (fun _ => True) [] (by kernel_rfl) ?_
       have HPd := hide (HP0.out.step ((Below.refl _ _).drew))
       have HL := hide (HL0.out.trans (((Below.refl _ _).drew).mono HL0.out.size))
       have HT := hide (⟨(HPd.out.blk HE.out.e19.1 HE.out.e19.2).1, (HPd.out.blk HE.out.e6.1 HE.out.e6.2).1, (HPd.out.blk HE.out.e24.1 HE.out.e24.2).1, (HPd.out.blk HE.out.e7.1 HE.out.e7.2).1⟩ : Blk W.drew b19 31 #[.int .u64 d] ∧ Blk W.drew b6 30 #[.int .i8 op] ∧ Blk W.drew b24 4 #[.bool false] ∧ Blk W.drew b7 30 #[.int .i8 x])
       clear HP0 HL0 c19 c6 c24 c7
       generalize W.drew = Wd at HT HPd HL ⊢
       refine el false 0 ⟨b19, 0, none⟩ (.int .u64 d) Tryz.underlying31 (fun w hS => (hS.1.1.cell 0)) (.both HT.out trivial) ?_
       simp only [sL]
       refine eg 1 (.bool false) (.both HT.out trivial) ?_
       simp only [sL]
       refine em 2 (.bool false) (.both HT.out trivial) ?_
       simp only [sL]
       refine en 3 (.both HT.out trivial) ?_
       simp only [sL]
       refine en 4 (.both HT.out trivial) ?_
       simp only [sL]
       refine en 5 (.both HT.out trivial) ?_
       simp only [sL]
       refine en 6 (.both HT.out trivial) ?_
       simp only [sL]
       refine en 7 (.both HT.out trivial) ?_
       simp only [sL]
       refine en 8 (.both HT.out trivial) ?_
       simp only [sL]
       refine en 9 (.both HT.out trivial) ?_
       simp only [sL]
       refine en 10 (.both HT.out trivial) ?_
       simp only [sL]
       refine en 11 (.both HT.out trivial) ?_
       simp only [sL]
       refine en 12 (.both HT.out trivial) ?_
       simp only [sL]
       refine en 13 (.both HT.out trivial) ?_
       simp only [sL]
       refine en 14 (.both HT.out trivial) ?_
       simp only [sL]
       refine en 15 (.both HT.out trivial) ?_
       simp only [sL]
       refine en 16 (.both HT.out trivial) ?_
       simp only [sL]
       refine ep 17 false (.bool false) (.both HT.out trivial) ?_
       simp only [sL]
       refine em 18 (.bool false) (.both HT.out trivial) ?_
       simp only [sL]
       refine el false 19 ⟨b24, 0, none⟩ (.bool false) Tryz.underlying4 (fun w hS => (hS.1.2.2.1.cell 0)) (.both HT.out trivial) ?_
       simp only [sL]
       refine em 20 (.bool false) (.both HT.out trivial) ?_
       simp only [sL]
       refine en 21 (.both HT.out trivial) ?_
       simp only [sL]
       refine en 22 (.both HT.out trivial) ?_
       simp only [sL]
       refine en 23 (.both HT.out trivial) ?_
       simp only [sL]
       refine en 24 (.both HT.out trivial) ?_
       simp only [sL]
       refine en 25 (.both HT.out trivial) ?_
       simp only [sL]
       refine en 26 (.both HT.out trivial) ?_
       simp only [sL]
       refine ep 27 false (.bool false) (.both HT.out trivial) ?_
       simp only [sL]
       refine ep 28 false (.bool false) (.both HT.out trivial) ?_
       simp only [sL]
       refine em 29 (.bool false) (.both HT.out trivial) ?_
       simp only [sL]
       refine el false 30 ⟨b6, 0, none⟩ (.int .i8 op) Tryz.underlying30 (fun w hS => (hS.1.2.1.cell 0)) (.both HT.out trivial) ?_
       simp only [sL]
       refine eg 31 (.bool false) (.both HT.out trivial) ?_
       simp only [sL]
       refine em 32 (.bool false) (.both HT.out trivial) ?_
       simp only [sL]
       refine en 33 (.both HT.out trivial) ?_
       simp only [sL]
       refine en 34 (.both HT.out trivial) ?_
       simp only [sL]
       refine ep 35 false (.bool false) (.both HT.out trivial) ?_
       simp only [sL]
       refine ep 36 false (.bool false) (.both HT.out trivial) ?_
       simp only [sL]
       refine em 37 (.bool false) (.both HT.out trivial) ?_
       simp only [sL]
       refine el false 38 ⟨b6, 0, none⟩ (.int .i8 op) Tryz.underlying30 (fun w hS => (hS.1.2.1.cell 0)) (.both HT.out trivial) ?_
       simp only [sL]
       refine eg 39 (.bool true) (.both HT.out trivial) ?_
       simp only [sL]
       refine em 40 (.bool true) (.both HT.out trivial) ?_
       simp only [sL]
       refine el false 41 ⟨b19, 0, none⟩ (.int .u64 d) Tryz.underlying31 (fun w hS => (hS.1.1.cell 0)) (.both HT.out trivial) ?_
       simp only [sL]
       refine el false 42 ⟨b7, 0, none⟩ (.int .i8 x) Tryz.underlying30 (fun w hS => (hS.1.2.2.2.cell 0)) (.both HT.out trivial) ?_
       simp only [sL]
       refine E_one 43 (by kernel_rfl) (StepE.of 43 (some 54) _ rfl (by rfl) fun o K h2 h3 hKK => ?_)
       unfold Oper.wp execOp
       simp only [h3]
       go_simp
       refine (HCM.out _).mono ?_
       rintro e w' ⟨rfl, rfl⟩
       dsimp only
       refine hKK _ _ (.both HT.out trivial) ?_
       clear hKK h2 h3 K o
       try simp only [pt, pn, sL]
       refine eg 44 (.bool true) (.both HT.out trivial) ?_
       simp only [sL]
       refine ep 45 true (.bool true) (.both HT.out trivial) ?_
       simp only [sL]
       refine ep 46 false (.bool true) (.both HT.out trivial) ?_
       simp only [sL]
       refine E_one 47 (by kernel_rfl) (StepE.assign 47 (some 10) _ (.bool true) rfl (by rfl) (by rfl) (.both HT.out trivial) ?_)
       simp only [pt, pn, sL]
       refine wpAnyE_done (by kernel_rfl) ?_ _
       go_wp2
       go_meet
       case rel => exact ⟨by rw [← HS.out, show sameB op x d = true by unfold sameB; rw [HSH.out, HM.out]; simp [hd, h2, h5, hc]], HPd.out, HL.out⟩
    ·skip
     have h5 : (op == 5) = false := by simp at h2; subst h2; rfl
     cases hc : (d == 1)
     ·skip
      go_wp2_with fail
      go_quiet ((go_at_call 97; refine Calls.quiet_of_same (HCM.out _)))
      go_wp2
      go_meet
      case rel => exact ⟨by rw [← HS.out, show sameB op x d = false by unfold sameB; rw [HSH.out, HM.out]; simp [hd, h2, h5, hc]], HP0.out.step (below_drewN (Below.refl _ _) nq), HL0.out.trans ((below_drewN (Below.refl _ _) nq).mono HL0.out.size)⟩
     ·skip
      go_wp2_with fail
      go_quiet ((go_at_call 97; refine Calls.quiet_of_same (HCM.out _)))
      go_wp2
      go_meet
      case rel => exact ⟨by rw [← HS.out, show sameB op x d = true by unfold sameB; rw [HSH.out, HM.out]; simp [hd, h2, h5, hc]], HP0.out.step (below_drewN (Below.refl _ _) nq), HL0.out.trans ((below_drewN (Below.refl _ _) nq).mono HL0.out.size)⟩
   ·skip
    have h2 : (op == 2) = false := by have q := HSH.out; unfold shiftsB at q; cases e : (op == 2) with
     | false => rfl
     | true => simp at e; subst e; simp at q
    have h5 : (op == 5) = false := by have q := HSH.out; unfold shiftsB at q; cases e : (op == 5) with
     | false => rfl
     | true => simp at e; subst e; simp at q
    cases hz : (bits .and .u64 d (x - 1) == 0)
    ·skip
     go_wp2_with fail
     go_quiet ((go_at_call 97; refine Calls.quiet_of_same (HCM.out _)))
     go_wp2
     go_meet
     case rel => exact ⟨by rw [← HS.out, show sameB op x d = false by unfold sameB; rw [HSH.out, HM.out]; simp [hd, hz, h2, h5]], HP0.out.step (below_drewN (Below.refl _ _) nq), HL0.out.trans ((below_drewN (Below.refl _ _) nq).mono HL0.out.size)⟩
    ·skip
     go_wp2_with fail
     go_quiet ((go_at_call 97; refine Calls.quiet_of_same (HCM.out _)))
     go_wp2
     go_meet
     case rel => exact ⟨by rw [← HS.out, show sameB op x d = true by unfold sameB; rw [HSH.out, HM.out]; simp [hd, hz]], HP0.out.step (below_drewN (Below.refl _ _) nq), HL0.out.trans ((below_drewN (Below.refl _ _) nq).mono HL0.out.size)⟩
  ·skip
   cases h0 : (op == 0)
   ·skip
    cases h4 : (op == 4)
    ·skip
     cases h10 : (op == 10)
     ·skip
      cases h9 : (op == 9)
      ·skip
       have hd1 : (d == 1) = false := by simp at hd; subst hd; rfl
       cases sh
       ·skip
        cases h2 : (op == 2)
        ·skip
         cases h5 : (op == 5)
         ·skip
          go_wp2_with fail
          go_quiet ((go_at_call 97; refine Calls.quiet_of_same (HCM.out _)))
          go_wp2
          go_meet
          case rel => exact ⟨by rw [← HS.out, show sameB op x d = false by unfold sameB; rw [HSH.out, HM.out]; simp [hd, h0, h4, h10, h9, h2, h5]], HP0.out.step (below_drewN (Below.refl _ _) nq), HL0.out.trans ((below_drewN (Below.refl _ _) nq).mono HL0.out.size)⟩
         ·skip
          cases hc : (d == M)
          ·skip
           refine wp_region_E (fun w' => Blk w' b19 31 #[.int .u64 d] ∧ Blk w' b6 30 #[.int .i8 op] ∧ Blk w' b24 4 #[.bool false] ∧ Blk w' b7 30 #[.int .i8 x]) (fun _ => True) [] (by kernel_rfl) ?_
           have HPd := hide (HP0.out.step ((Below.refl _ _).drew))
           have HL := hide (HL0.out.trans (((Below.refl _ _).drew).mono HL0.out.size))
           have HT := hide (⟨(HPd.out.blk HE.out.e19.1 HE.out.e19.2).1, (HPd.out.blk HE.out.e6.1 HE.out.e6.2).1, (HPd.out.blk HE.out.e24.1 HE.out.e24.2).1, (HPd.out.blk HE.out.e7.1 HE.out.e7.2).1⟩ : Blk W.drew b19 31 #[.int .u64 d] ∧ Blk W.drew b6 30 #[.int .i8 op] ∧ Blk W.drew b24 4 #[.bool false] ∧ Blk W.drew b7 30 #[.int .i8 x])
           clear HP0 HL0 c19 c6 c24 c7
           generalize W.drew = Wd at HT HPd HL ⊢
           refine el false 0 ⟨b19, 0, none⟩ (.int .u64 d) Tryz.underlying31 (fun w hS => (hS.1.1.cell 0)) (.both HT.out trivial) ?_
           simp only [sL]
           refine eg 1 (.bool true) (.both HT.out trivial) ?_
           simp only [sL]
           refine em 2 (.bool true) (.both HT.out trivial) ?_
           simp only [sL]
           refine el false 3 ⟨b6, 0, none⟩ (.int .i8 op) Tryz.underlying30 (fun w hS => (hS.1.2.1.cell 0)) (.both HT.out trivial) ?_
           simp only [sL]
           refine eg 4 (.bool false) (.both HT.out trivial) ?_
           simp only [sL]
           refine em 5 (.bool false) (.both HT.out trivial) ?_
           simp only [sL]
           refine el false 6 ⟨b6, 0, none⟩ (.int .i8 op) Tryz.underlying30 (fun w hS => (hS.1.2.1.cell 0)) (.both HT.out trivial) ?_
           simp only [sL]
           refine eg 7 (.bool false) (.both HT.out trivial) ?_
           simp only [sL]
           refine ep 8 false (.bool false) (.both HT.out trivial) ?_
           simp only [sL]
           refine em 9 (.bool false) (.both HT.out trivial) ?_
           simp only [sL]
           refine el false 10 ⟨b6, 0, none⟩ (.int .i8 op) Tryz.underlying30 (fun w hS => (hS.1.2.1.cell 0)) (.both HT.out trivial) ?_
           simp only [sL]
           refine eg 11 (.bool false) (.both HT.out trivial) ?_
           simp only [sL]
           refine ep 12 false (.bool false) (.both HT.out trivial) ?_
           simp only [sL]
           refine em 13 (.bool false) (.both HT.out trivial) ?_
           simp only [sL]
           refine el false 14 ⟨b6, 0, none⟩ (.int .i8 op) Tryz.underlying30 (fun w hS => (hS.1.2.1.cell 0)) (.both HT.out trivial) ?_
           simp only [sL]
           refine eg 15 (.bool false) (.both HT.out trivial) ?_
           simp only [sL]
           refine ep 16 false (.bool false) (.both HT.out trivial) ?_
           simp only [sL]
           refine ep 17 true (.bool false) (.both HT.out trivial) ?_
           simp only [sL]
           refine em 18 (.bool false) (.both HT.out trivial) ?_
           simp only [sL]
           refine el false 19 ⟨b24, 0, none⟩ (.bool false) Tryz.underlying4 (fun w hS => (hS.1.2.2.1.cell 0)) (.both HT.out trivial) ?_
           simp only [sL]
           refine em 20 (.bool false) (.both HT.out trivial) ?_
           simp only [sL]
           refine en 21 (.both HT.out trivial) ?_
           simp only [sL]
           refine en 22 (.both HT.out trivial) ?_
           simp only [sL]
           refine en 23 (.both HT.out trivial) ?_
           simp only [sL]
           refine en 24 (.both HT.out trivial) ?_
           simp only [sL]
           refine en 25 (.both HT.out trivial) ?_
           simp only [sL]
           refine en 26 (.both HT.out trivial) ?_
           simp only [sL]
           refine ep 27 false (.bool false) (.both HT.out trivial) ?_
           simp only [sL]
           refine ep 28 false (.bool false) (.both HT.out trivial) ?_
           simp only [sL]
           refine em 29 (.bool false) (.both HT.out trivial) ?_
           simp only [sL]
           refine el false 30 ⟨b6, 0, none⟩ (.int .i8 op) Tryz.underlying30 (fun w hS => (hS.1.2.1.cell 0)) (.both HT.out trivial) ?_
           simp only [sL]
           refine eg 31 (.bool false) (.both HT.out trivial) ?_
           simp only [sL]
           refine em 32 (.bool false) (.both HT.out trivial) ?_
           simp only [sL]
           refine en 33 (.both HT.out trivial) ?_
           simp only [sL]
           refine en 34 (.both HT.out trivial) ?_
           simp only [sL]
           refine ep 35 false (.bool false) (.both HT.out trivial) ?_
           simp only [sL]
           refine ep 36 false (.bool false) (.both HT.out trivial) ?_
           simp only [sL]
           refine em 37 (.bool false) (.both HT.out trivial) ?_
           simp only [sL]
           refine el false 38 ⟨b6, 0, none⟩ (.int .i8 op) Tryz.underlying30 (fun w hS => (hS.1.2.1.cell 0)) (.both HT.out trivial) ?_
           simp only [sL]
           refine eg 39 (.bool true) (.both HT.out trivial) ?_
           simp only [sL]
           refine em 40 (.bool true) (.both HT.out trivial) ?_
           simp only [sL]
           refine el false 41 ⟨b19, 0, none⟩ (.int .u64 d) Tryz.underlying31 (fun w hS => (hS.1.1.cell 0)) (.both HT.out trivial) ?_
           simp only [sL]
           refine el false 42 ⟨b7, 0, none⟩ (.int .i8 x) Tryz.underlying30 (fun w hS => (hS.1.2.2.2.cell 0)) (.both HT.out trivial) ?_
           simp only [sL]
           refine E_one 43 (by kernel_rfl) (StepE.of 43 (some 54) _ rfl (by rfl) fun o K h2 h3 hKK => ?_)
           unfold Oper.wp execOp
           simp only [h3]
           go_simp
           refine (HCM.out _).mono ?_
           rintro e w' ⟨rfl, rfl⟩
           dsimp only
           refine hKK _ _ (.both HT.out trivial) ?_
           clear hKK h2 h3 K o
           try simp only [pt, pn, sL]
           refine eg 44 (.bool false) (.both HT.out trivial) ?_
           simp only [sL]
           refine ep 45 true (.bool false) (.both HT.out trivial) ?_
           simp only [sL]
           refine ep 46 false (.bool false) (.both HT.out trivial) ?_
           simp only [sL]
           refine E_one 47 (by kernel_rfl) (StepE.assign 47 (some 10) _ (.bool false) rfl (by rfl) (by rfl) (.both HT.out trivial) ?_)
           simp only [pt, pn, sL]
           refine wpAnyE_done (by kernel_rfl) ?_ _
           go_wp2
           go_meet
           case rel => exact ⟨by rw [← HS.out, show sameB op x d = false by unfold sameB; rw [HSH.out, HM.out]; simp [hd, h0, h4, h10, h9, h2, h5, hc]], HPd.out, HL.out⟩
          ·skip
           refine wp_region_E (fun w' => Blk w' b19 31 #[.int .u64 d] ∧ Blk w' b6 30 #[.int .i8 op] ∧ Blk w' b24 4 #[.bool false] ∧ Blk w' b7 30 #[.int .i8 x]) (fun _ => True) [] (by kernel_rfl) ?_
           have HPd := hide (HP0.out.step ((Below.refl _ _).drew))
           have HL := hide (HL0.out.trans (((Below.refl _ _).drew).mono HL0.out.size))
           have HT := hide (⟨(HPd.out.blk HE.out.e19.1 HE.out.e19.2).1, (HPd.out.blk HE.out.e6.1 HE.out.e6.2).1, (HPd.out.blk HE.out.e24.1 HE.out.e24.2).1, (HPd.out.blk HE.out.e7.1 HE.out.e7.2).1⟩ : Blk W.drew b19 31 #[.int .u64 d] ∧ Blk W.drew b6 30 #[.int .i8 op] ∧ Blk W.drew b24 4 #[.bool false] ∧ Blk W.drew b7 30 #[.int .i8 x])
           clear HP0 HL0 c19 c6 c24 c7
           generalize W.drew = Wd at HT HPd HL ⊢
           refine el false 0 ⟨b19, 0, none⟩ (.int .u64 d) Tryz.underlying31 (fun w hS => (hS.1.1.cell 0)) (.both HT.out trivial) ?_
           simp only [sL]
           refine eg 1 (.bool true) (.both HT.out trivial) ?_
           simp only [sL]
           refine em 2 (.bool true) (.both HT.out trivial) ?_
           simp only [sL]
           refine el false 3 ⟨b6, 0, none⟩ (.int .i8 op) Tryz.underlying30 (fun w hS => (hS.1.2.1.cell 0)) (.both HT.out trivial) ?_
           simp only [sL]
           refine eg 4 (.bool false) (.both HT.out trivial) ?_
           simp only [sL]
           refine em 5 (.bool false) (.both HT.out trivial) ?_
           simp only [sL]
           refine el false 6 ⟨b6, 0, none⟩ (.int .i8 op) Tryz.underlying30 (fun w hS => (hS.1.2.1.cell 0)) (.both HT.out trivial) ?_
           simp only [sL]
           refine eg 7 (.bool false) (.both HT.out trivial) ?_
           simp only [sL]
           refine ep 8 false (.bool false) (.both HT.out trivial) ?_
           simp only [sL]
           refine em 9 (.bool false) (.both HT.out trivial) ?_
           simp only [sL]
           refine el false 10 ⟨b6, 0, none⟩ (.int .i8 op) Tryz.underlying30 (fun w hS => (hS.1.2.1.cell 0)) (.both HT.out trivial) ?_
           simp only [sL]
           refine eg 11 (.bool false) (.both HT.out trivial) ?_
           simp only [sL]
           refine ep 12 false (.bool false) (.both HT.out trivial) ?_
           simp only [sL]
           refine em 13 (.bool false) (.both HT.out trivial) ?_
           simp only [sL]
           refine el false 14 ⟨b6, 0, none⟩ (.int .i8 op) Tryz.underlying30 (fun w hS => (hS.1.2.1.cell 0)) (.both HT.out trivial) ?_
           simp only [sL]
           refine eg 15 (.bool false) (.both HT.out trivial) ?_
           simp only [sL]
           refine ep 16 false (.bool false) (.both HT.out trivial) ?_
           simp only [sL]
           refine ep 17 true (.bool false) (.both HT.out trivial) ?_
           simp only [sL]
           refine em 18 (.bool false) (.both HT.out trivial) ?_
           simp only [sL]
           refine el false 19 ⟨b24, 0, none⟩ (.bool false) Tryz.underlying4 (fun w hS => (hS.1.2.2.1.cell 0)) (.both HT.out trivial) ?_
           simp only [sL]
           refine em 20 (.bool false) (.both HT.out trivial) ?_
           simp only [sL]
           refine en 21 (.both HT.out trivial) ?_
           simp only [sL]
           refine en 22 (.both HT.out trivial) ?_
           simp only [sL]
           refine en 23 (.both HT.out trivial) ?_
           simp only [sL]
           refine en 24 (.both HT.out trivial) ?_
           simp only [sL]
           refine en 25 (.both HT.out trivial) ?_
           simp only [sL]
           refine en 26 (.both HT.out trivial) ?_
           simp only [sL]
           refine ep 27 false (.bool false) (.both HT.out trivial) ?_
           simp only [sL]
           refine ep 28 false (.bool false) (.both HT.out trivial) ?_
           simp only [sL]
           refine em 29 (.bool false) (.both HT.out trivial) ?_
           simp only [sL]
           refine el false 30 ⟨b6, 0, none⟩ (.int .i8 op) Tryz.underlying30 (fun w hS => (hS.1.2.1.cell 0)) (.both HT.out trivial) ?_
           simp only [sL]
           refine eg 31 (.bool false) (.both HT.out trivial) ?_
           simp only [sL]
           refine em 32 (.bool false) (.both HT.out trivial) ?_
           simp only [sL]
           refine en 33 (.both HT.out trivial) ?_
           simp only [sL]
           refine en 34 (.both HT.out trivial) ?_
           simp only [sL]
           refine ep 35 false (.bool false) (.both HT.out trivial) ?_
           simp only [sL]
           refine ep 36 false (.bool false) (.both HT.out trivial) ?_
           simp only [sL]
           refine em 37 (.bool false) (.both HT.out trivial) ?_
           simp only [sL]
           refine el false 38 ⟨b6, 0, none⟩ (.int .i8 op) Tryz.underlying30 (fun w hS => (hS.1.2.1.cell 0)) (.both HT.out trivial) ?_
           simp only [sL]
           refine eg 39 (.bool true) (.both HT.out trivial) ?_
           simp only [sL]
           refine em 40 (.bool true) (.both HT.out trivial) ?_
           simp only [sL]
           refine el false 41 ⟨b19, 0, none⟩ (.int .u64 d) Tryz.underlying31 (fun w hS => (hS.1.1.cell 0)) (.both HT.out trivial) ?_
           simp only [sL]
           refine el false 42 ⟨b7, 0, none⟩ (.int .i8 x) Tryz.underlying30 (fun w hS => (hS.1.2.2.2.cell 0)) (.both HT.out trivial) ?_
           simp only [sL]
           refine E_one 43 (by kernel_rfl) (StepE.of 43 (some 54) _ rfl (by rfl) fun o K h2 h3 hKK => ?_)
           unfold Oper.wp execOp
           simp only [h3]
           go_simp
           refine (HCM.out _).mono ?_
           rintro e w' ⟨rfl, rfl⟩
           dsimp only
           refine hKK _ _ (.both HT.out trivial) ?_
           clear hKK h2 h3 K o
           try simp only [pt, pn, sL]
           refine eg 44 (.bool true) (.both HT.out trivial) ?_
           simp only [sL]
           refine ep 45 true (.bool true) (.both HT.out trivial) ?_
           simp only [sL]
           refine ep 46 false (.bool true) (.both HT.out trivial) ?_
           simp only [sL]
           refine E_one 47 (by kernel_rfl) (StepE.assign 47 (some 10) _ (.bool true) rfl (by rfl) (by rfl) (.both HT.out trivial) ?_)
           simp only [pt, pn, sL]
           refine wpAnyE_done (by kernel_rfl) ?_ _
           go_wp2
           go_meet
           case rel => exact ⟨by rw [← HS.out, show sameB op x d = true by unfold sameB; rw [HSH.out, HM.out]; simp [hd, h0, h4, h10, h9, h2, h5, hc]], HPd.out, HL.out⟩
        ·skip
         have h5 : (op == 5) = false := by simp at h2; subst h2; rfl
         go_wp2_with fail
         go_quiet ((go_at_call 97; refine Calls.quiet_of_same (HCM.out _)))
         go_wp2
         go_meet
         case rel => exact ⟨by rw [← HS.out, show sameB op x d = false by unfold sameB; rw [HSH.out, HM.out]; simp [hd, h0, h4, h10, h9, h2, h5, hd1]], HP0.out.step (below_drewN (Below.refl _ _) nq), HL0.out.trans ((below_drewN (Below.refl _ _) nq).mono HL0.out.size)⟩
       ·skip
        have h2 : (op == 2) = false := by have q := HSH.out; unfold shiftsB at q; cases e : (op == 2) with
         | false => rfl
         | true => simp at e; subst e; simp at q
        have h5 : (op == 5) = false := by have q := HSH.out; unfold shiftsB at q; cases e : (op == 5) with
         | false => rfl
         | true => simp at e; subst e; simp at q
        cases hz : (bits .and .u64 d (x - 1) == 0)
        ·skip
         go_wp2_with fail
         go_quiet ((go_at_call 97; refine Calls.quiet_of_same (HCM.out _)))
         go_wp2
         go_meet
         case rel => exact ⟨by rw [← HS.out, show sameB op x d = false by unfold sameB; rw [HSH.out, HM.out]; simp [hd, h0, h4, h10, h9, hz, h2, h5]], HP0.out.step (below_drewN (Below.refl _ _) nq), HL0.out.trans ((below_drewN (Below.refl _ _) nq).mono HL0.out.size)⟩
        ·skip
         go_wp2_with fail
         go_quiet ((go_at_call 97; refine Calls.quiet_of_same (HCM.out _)))
         go_wp2
         go_meet
         case rel => exact ⟨by rw [← HS.out, show sameB op x d = true by unfold sameB; rw [HSH.out, HM.out]; simp [hd, h0, h4, h10, h9, hz]], HP0.out.step (below_drewN (Below.refl _ _) nq), HL0.out.trans ((below_drewN (Below.refl _ _) nq).mono HL0.out.size)⟩
      ·skip
       go_wp2_with fail
       go_quiet ((go_at_call 97; refine Calls.quiet_of_same (HCM.out _)))
       go_wp2
       go_meet
       case rel => exact ⟨by rw [← HS.out, show sameB op x d = true by unfold sameB; rw [HSH.out, HM.out]; simp [hd, h0, h4, h10, h9]], HP0.out.step (below_drewN (Below.refl _ _) nq), HL0.out.trans ((below_drewN (Below.refl _ _) nq).mono HL0.out.size)⟩
     ·skip
      go_wp2_with fail
      go_quiet ((go_at_call 97; refine Calls.quiet_of_same (HCM.out _)))
      go_wp2
      go_meet
      case rel => exact ⟨by rw [← HS.out, show sameB op x d = true by unfold sameB; rw [HSH.out, HM.out]; simp [hd, h0, h4, h10]], HP0.out.step (below_drewN (Below.refl _ _) nq), HL0.out.trans ((below_drewN (Below.refl _ _) nq).mono HL0.out.size)⟩
    ·skip
     go_wp2_with fail
     go_quiet ((go_at_call 97; refine Calls.quiet_of_same (HCM.out _)))
     go_wp2
     go_meet
     case rel => exact ⟨by rw [← HS.out, show sameB op x d = true by unfold sameB; rw [HSH.out, HM.out]; simp [hd, h0, h4]], HP0.out.step (below_drewN (Below.refl _ _) nq), HL0.out.trans ((below_drewN (Below.refl _ _) nq).mono HL0.out.size)⟩
   ·skip
    go_wp2_with fail
    go_quiet ((go_at_call 97; refine Calls.quiet_of_same (HCM.out _)))
    go_wp2
    go_meet
    case rel => exact ⟨by rw [← HS.out, show sameB op x d = true by unfold sameB; rw [HSH.out, HM.out]; simp [hd, h0]], HP0.out.step (below_drewN (Below.refl _ _) nq), HL0.out.trans ((below_drewN (Below.refl _ _) nq).mono HL0.out.size)⟩
 case rest =>
  obtain ⟨rfl, hpg, hl⟩ := hcut
  have HP0 := hide hpg
  have HL0 := hide hl
  clear hpg hl
  cases rt
  ·skip
   cases S
   ·skip
    have c20 := (HP0.out.blk HE.out.e20.1 HE.out.e20.2).1.cell 0
    have c22 := (HP0.out.blk HE.out.e22.1 HE.out.e22.2).1.cell 0
    have c8 := (HP0.out.blk HE.out.e8.1 HE.out.e8.2).1.cell 0
    simp at c20 c22 c8
    go_wp2_with fail
    refine (as_any _ _ _ _).mono ?_
    rintro e w8 ⟨rfl, rfl⟩
    have hb8 : Below wc.heap.size wc (wc.alloc (.cells #[.int .i64 a] 3)) := (Below.refl _ _).alloc (Nat.le_refl _) _
    have HBX := hide (Blk.new wc 3 #[.int .i64 a])
    have HPd := hide (HP0.out.step hb8)
    have HL := hide (HL0.out.trans (hb8.mono HL0.out.size))
    clear hb8 c20 c22 c8 HP0 HL0
    obtain ⟨bx, hbx⟩ : ∃ b, wc.heap.size = b := ⟨_, rfl⟩
    rw [hbx] at HBX ⊢
    clear hbx
    generalize wc.alloc (.cells #[.int .i64 a] 3) = w8 at HPd HL HBX ⊢
    go_wp2_with fail
    refine (then_no _ _).mono ?_
    rintro e w9 ⟨rfl, rfl⟩
    go_wp2
    exact bodyPost_ret (v := .tuple #[.int .i64 0, .bool false, .int .i64 0]) (by simp [results, Tryz.results132, go_sem]) rfl (.inl ⟨rfl, rfl, HL.out⟩)
   ·skip
    have c20 := (HP0.out.blk HE.out.e20.1 HE.out.e20.2).1.cell 0
    have c22 := (HP0.out.blk HE.out.e22.1 HE.out.e22.2).1.cell 0
    have c8 := (HP0.out.blk HE.out.e8.1 HE.out.e8.2).1.cell 0
    simp at c20 c22 c8
    go_wp2_with fail
    refine (as_any _ _ _ _).mono ?_
    rintro e w8 ⟨rfl, rfl⟩
    have hb8 : Below wc.heap.size wc (wc.alloc (.cells #[.int .i64 a] 3)) := (Below.refl _ _).alloc (Nat.le_refl _) _
    have HBX := hide (Blk.new wc 3 #[.int .i64 a])
    have HPd := hide (HP0.out.step hb8)
    have HL := hide (HL0.out.trans (hb8.mono HL0.out.size))
    clear hb8 c20 c22 c8 HP0 HL0
    obtain ⟨bx, hbx⟩ : ∃ b, wc.heap.size = b := ⟨_, rfl⟩
    rw [hbx] at HBX ⊢
    clear hbx
    generalize wc.alloc (.cells #[.int .i64 a] 3) = w8 at HPd HL HBX ⊢
    go_wp2_with fail
    refine (then_no _ _).mono ?_
    rintro e w9 ⟨rfl, rfl⟩
    go_wp2
    exact bodyPost_ret (v := .tuple #[.int .i64 0, .bool false, .int .i64 0]) (by simp [results, Tryz.results132, go_sem]) rfl (.inl ⟨rfl, rfl, HL.out⟩)
  ·skip
   cases S
   ·skip
    have c20 := (HP0.out.blk HE.out.e20.1 HE.out.e20.2).1.cell 0
    have c22 := (HP0.out.blk HE.out.e22.1 HE.out.e22.2).1.cell 0
    have c8 := (HP0.out.blk HE.out.e8.1 HE.out.e8.2).1.cell 0
    simp at c20 c22 c8
    go_wp2_with fail
    refine (as_any _ _ _ _).mono ?_
    rintro e w8 ⟨rfl, rfl⟩
    have hb8 : Below wc.heap.size wc (wc.alloc (.cells #[.int .i64 a] 3)) := (Below.refl _ _).alloc (Nat.le_refl _) _
    have HBX := hide (Blk.new wc 3 #[.int .i64 a])
    have HPd := hide (HP0.out.step hb8)
    have HL := hide (HL0.out.trans (hb8.mono HL0.out.size))
    clear hb8 c20 c22 c8 HP0 HL0
    obtain ⟨bx, hbx⟩ : ∃ b, wc.heap.size = b := ⟨_, rfl⟩
    rw [hbx] at HBX ⊢
    clear hbx
    generalize wc.alloc (.cells #[.int .i64 a] 3) = w8 at HPd HL HBX ⊢
    go_wp2_with fail
    refine (then_no _ _).mono ?_
    rintro e w9 ⟨rfl, rfl⟩
    go_wp2
    exact bodyPost_ret (v := .tuple #[.int .i64 0, .bool false, .int .i64 0]) (by simp [results, Tryz.results132, go_sem]) rfl (.inl ⟨rfl, rfl, HL.out⟩)
   ·skip
    have HR := hide (HRI.out rfl)
    have c20 := (HP0.out.blk HE.out.e20.1 HE.out.e20.2).1.cell 0
    have c22 := (HP0.out.blk HE.out.e22.1 HE.out.e22.2).1.cell 0
    have c8 := (HP0.out.blk HE.out.e8.1 HE.out.e8.2).1.cell 0
    simp at c20 c22 c8
    go_wp2_with fail
    refine (as_any _ _ _ _).mono ?_
    rintro e w8 ⟨rfl, rfl⟩
    have hb8 : Below wc.heap.size wc (wc.alloc (.cells #[.int .i64 a] 3)) := (Below.refl _ _).alloc (Nat.le_refl _) _
    have HBX := hide (Blk.new wc 3 #[.int .i64 a])
    have HPd := hide (HP0.out.step hb8)
    have HL := hide (HL0.out.trans (hb8.mono HL0.out.size))
    clear hb8 c20 c22 c8 HP0 HL0
    obtain ⟨bx, hbx⟩ : ∃ b, wc.heap.size = b := ⟨_, rfl⟩
    rw [hbx] at HBX ⊢
    clear hbx
    generalize wc.alloc (.cells #[.int .i64 a] 3) = w8 at HPd HL HBX ⊢
    go_wp2_with fail
    have H := hide (as1_any (F := F) x _ HX.out HN.out f r HR.out b15 b7 bx w8 HPd.out.pool (Nat.le_trans HB.out HPd.out.size) (HPd.out.blk HE.out.e15.1 HE.out.e15.2).1 (HPd.out.blk HE.out.e7.1 HE.out.e7.2).1 HBX.out)
    refine (then_yes 117 _ _ (RR base g F W r) enters2_1 (H.out.mono fun e w' q => RR.of (RetP.from HPd.out q))).mono ?_
    rintro e w9 ⟨n, m, rfl, hrr⟩
    have HRR := hide hrr
    clear hrr
    go_wp2
    exact bodyPost_ret (v := .tuple #[.int .i64 n, .bool true, .int .i64 m]) (by simp [results, Tryz.results132, go_sem]) rfl (.inr ⟨rfl, n, m, rfl, HRR.out⟩)
end
end Go.Proofs.YtepagfkkjlbipaaGreat
