/-
  Contract of Op's law 9. Conditions: those written in each statement.
-/
import Derived.Test.YtepagfkkjlbipaaNn
import Derived.BigQuiet
import Derived.Deep.QuietTactic
namespace Go.Proofs.Ytepagfkkjlbipaa
open Go.RowKit
set_option linter.unusedVariables false
set_option linter.unusedSimpArgs false
set_option maxRecDepth 100000
section
variable {base f g : Nat} {op x a b c d : Int} {lf rt tn sh : Bool} {b5 b6 b7 b8 b9 b15 b17 b18 b19 b20 b21 b22 b23 b24 : Nat} {F : Nat → Prop} {W : World} {p : PS} {r : RS}
set_option maxHeartbeats 40000000 in
theorem law9_any (hE : OpE g op x a b c d lf rt tn sh b5 b6 b7 b8 b9 b15 b17 b18 b19 b20 b21 b22 b23 b24 F W) (hp : PoolAt W base F g p) (hbase : base ≤ W.heap.size) (hx : x = 32 ∨ x = 64) (hsh : shiftsB op = sh) (hn : I64 a) (hr : (rt && sameB op x d) = true → zextF f p x a = some r) :
    Calls Try.prog 76 #[.pointer (some ⟨b19, 0, none⟩), .pointer (some ⟨b6, 0, none⟩), .pointer (some ⟨b24, 0, none⟩), .pointer (some ⟨b7, 0, none⟩), .pointer (some ⟨b20, 0, none⟩), .pointer (some ⟨b22, 0, none⟩), .pointer (some ⟨b8, 0, none⟩)] W fun e w' => ((rt && sameB op x d) = false ∧ e = .returned (.tuple #[.int .i64 0, .bool false, .int .i64 0]) ∧ Below W.heap.size W w') ∨ ((rt && sameB op x d) = true ∧ ∃ n m, e = .returned (.tuple #[.int .i64 n, .bool true, .int .i64 m]) ∧ RR base g F W r n m w') := by
  have HX := hide (show x = 8 ∨ x = 16 ∨ x = 32 ∨ x = 64 by omega)
  have hw1 : IntKind.i8.wrap (x - 1) = x - 1 := by rcases hx with rfl | rfl <;> decide
  have hw2 : IntKind.u64.wrap (x - 1) = x - 1 := by rcases hx with rfl | rfl <;> decide
  obtain ⟨S, hS⟩ : ∃ S, sameB op x d = S := ⟨_, rfl⟩
  rw [hS] at hr ⊢
  have HS := hide hS
  have HSH := hide hsh
  have HB := hide hbase
  have HRI := hide hr
  have HN := hide hn
  have HE := hide hE
  have HP := hide hp
  have HP0 := hide (PG.refl hp)
  have HL0 := hide (Below.refl W.heap.size W)
  clear hE hp hx hS hsh hbase hr hn
  go_enter Try.func76, Try.ntmps76
  go_upto_region 1 with fail
  go_cut [10] from 11 to 57 (fun sv wc => sv = .bool S ∧ PG base g F W F p wc ∧ Below W.heap.size W wc)
  case first =>
    clear HRI HB HN HX
    obtain ⟨M, hM⟩ : ∃ M, cutV x 18446744073709551615 = M := ⟨_, rfl⟩
    have HM := hide hM
    have HCM := hide (fun W => by have := cut_any 18446744073709551615 x W; rw [hM] at this; exact this : ∀ W, Calls Try.prog 47 #[.int .u64 18446744073709551615, .int .i8 x] W fun e w' => e = .returned (.int .u64 M) ∧ W = w')
    clear hM
    have c19 := HE.out.e19.1.cell 0
    have c6 := HE.out.e6.1.cell 0
    have c24 := HE.out.e24.1.cell 0
    have c7 := HE.out.e7.1.cell 0
    simp at c19 c6 c24 c7
    cases hd : (d == 0)
    · skip
      cases sh
      · skip
        cases h2 : (op == 2)
        · skip
          cases h5 : (op == 5)
          · skip
            go_wp2_with fail
            go_quiet ((go_at_call 47; refine Calls.quiet_of_same (HCM.out _)))
            go_wp2
            go_meet
            case rel => exact ⟨by rw [← HS.out, show sameB op x d = false by unfold sameB; rw [HSH.out, HM.out]; simp [hd, h2, h5]], HP0.out.step (below_drewN (Below.refl _ _) nq), HL0.out.trans ((below_drewN (Below.refl _ _) nq).mono HL0.out.size)⟩
          · skip
            cases hc : (d == M)
            · skip
              refine wp_region_E (fun w' => Blk w' b19 46 #[.int .u64 d] ∧ Blk w' b6 24 #[.int .i8 op] ∧ Blk w' b24 4 #[.bool false] ∧ Blk w' b7 24 #[.int .i8 x]) (fun _ => True) [] (by kernel_rfl) ?_
              have HPd := hide (HP0.out.step ((Below.refl _ _).drew))
              have HL := hide (HL0.out.trans (((Below.refl _ _).drew).mono HL0.out.size))
              have HT := hide (⟨(HPd.out.blk HE.out.e19.1 HE.out.e19.2).1, (HPd.out.blk HE.out.e6.1 HE.out.e6.2).1, (HPd.out.blk HE.out.e24.1 HE.out.e24.2).1, (HPd.out.blk HE.out.e7.1 HE.out.e7.2).1⟩ : Blk W.drew b19 46 #[.int .u64 d] ∧ Blk W.drew b6 24 #[.int .i8 op] ∧ Blk W.drew b24 4 #[.bool false] ∧ Blk W.drew b7 24 #[.int .i8 x])
              clear HP0 HL0 c19 c6 c24 c7
              generalize W.drew = Wd at HT HPd HL ⊢
              refine E_load1 false 0 (some 11) 46 _ ⟨b19, 0, none⟩ (.int .u64 d) rfl (by kernel_rfl) (by rfl) (fun _ _ _ h => h) (by rfl) (fun w hS => run_loadVar_one _ _ _ _ Try.underlying46 rfl (hS.1.1.cell 0)) (.both HT.out trivial) ?_
              simp only [Act.put, List.setIfInBounds_toArray, List.set_cons_zero, List.set_cons_succ]
              refine E_any false 1 (some 12) _ (.bool false) rfl (by kernel_rfl) (by rfl) (fun _ _ _ h => h) (fun o e w _ => by unfold execOp; simp only [e]; go_simp) (.both HT.out trivial) ?_
              simp only [Act.put, List.setIfInBounds_toArray, List.set_cons_zero, List.set_cons_succ]
              refine E_move 2 (some 13) _ (.bool false) rfl (by kernel_rfl) (by rfl) (fun _ _ _ h => h) (by rfl) (.both HT.out trivial) ?_
              simp only [Act.put, List.setIfInBounds_toArray, List.set_cons_zero, List.set_cons_succ]
              refine E_not 3 (some 14) _ rfl (by kernel_rfl) (by rfl) (fun _ _ _ h => h) (.both HT.out trivial) ?_
              simp only [Act.put, List.setIfInBounds_toArray, List.set_cons_zero, List.set_cons_succ]
              refine E_not 4 (some 15) _ rfl (by kernel_rfl) (by rfl) (fun _ _ _ h => h) (.both HT.out trivial) ?_
              simp only [Act.put, List.setIfInBounds_toArray, List.set_cons_zero, List.set_cons_succ]
              refine E_not 5 (some 16) _ rfl (by kernel_rfl) (by rfl) (fun _ _ _ h => h) (.both HT.out trivial) ?_
              simp only [Act.put, List.setIfInBounds_toArray, List.set_cons_zero, List.set_cons_succ]
              refine E_not 6 (some 17) _ rfl (by kernel_rfl) (by rfl) (fun _ _ _ h => h) (.both HT.out trivial) ?_
              simp only [Act.put, List.setIfInBounds_toArray, List.set_cons_zero, List.set_cons_succ]
              refine E_not 7 (some 18) _ rfl (by kernel_rfl) (by rfl) (fun _ _ _ h => h) (.both HT.out trivial) ?_
              simp only [Act.put, List.setIfInBounds_toArray, List.set_cons_zero, List.set_cons_succ]
              refine E_not 8 (some 19) _ rfl (by kernel_rfl) (by rfl) (fun _ _ _ h => h) (.both HT.out trivial) ?_
              simp only [Act.put, List.setIfInBounds_toArray, List.set_cons_zero, List.set_cons_succ]
              refine E_not 9 (some 20) _ rfl (by kernel_rfl) (by rfl) (fun _ _ _ h => h) (.both HT.out trivial) ?_
              simp only [Act.put, List.setIfInBounds_toArray, List.set_cons_zero, List.set_cons_succ]
              refine E_not 10 (some 21) _ rfl (by kernel_rfl) (by rfl) (fun _ _ _ h => h) (.both HT.out trivial) ?_
              simp only [Act.put, List.setIfInBounds_toArray, List.set_cons_zero, List.set_cons_succ]
              refine E_not 11 (some 22) _ rfl (by kernel_rfl) (by rfl) (fun _ _ _ h => h) (.both HT.out trivial) ?_
              simp only [Act.put, List.setIfInBounds_toArray, List.set_cons_zero, List.set_cons_succ]
              refine E_not 12 (some 23) _ rfl (by kernel_rfl) (by rfl) (fun _ _ _ h => h) (.both HT.out trivial) ?_
              simp only [Act.put, List.setIfInBounds_toArray, List.set_cons_zero, List.set_cons_succ]
              refine E_not 13 (some 24) _ rfl (by kernel_rfl) (by rfl) (fun _ _ _ h => h) (.both HT.out trivial) ?_
              simp only [Act.put, List.setIfInBounds_toArray, List.set_cons_zero, List.set_cons_succ]
              refine E_not 14 (some 25) _ rfl (by kernel_rfl) (by rfl) (fun _ _ _ h => h) (.both HT.out trivial) ?_
              simp only [Act.put, List.setIfInBounds_toArray, List.set_cons_zero, List.set_cons_succ]
              refine E_not 15 (some 26) _ rfl (by kernel_rfl) (by rfl) (fun _ _ _ h => h) (.both HT.out trivial) ?_
              simp only [Act.put, List.setIfInBounds_toArray, List.set_cons_zero, List.set_cons_succ]
              refine E_not 16 (some 27) _ rfl (by kernel_rfl) (by rfl) (fun _ _ _ h => h) (.both HT.out trivial) ?_
              simp only [Act.put, List.setIfInBounds_toArray, List.set_cons_zero, List.set_cons_succ]
              refine E_pick 17 (some 28) _ _ _ false (.bool false) rfl (by kernel_rfl) (by rfl) (fun _ _ _ h => h) (by rfl) (by rfl) (.both HT.out trivial) ?_
              simp only [Act.put, List.setIfInBounds_toArray, List.set_cons_zero, List.set_cons_succ]
              refine E_move 18 (some 29) _ (.bool false) rfl (by kernel_rfl) (by rfl) (fun _ _ _ h => h) (by rfl) (.both HT.out trivial) ?_
              simp only [Act.put, List.setIfInBounds_toArray, List.set_cons_zero, List.set_cons_succ]
              refine E_load1 false 19 (some 30) 4 _ ⟨b24, 0, none⟩ (.bool false) rfl (by kernel_rfl) (by rfl) (fun _ _ _ h => h) (by rfl) (fun w hS => run_loadVar_one _ _ _ _ Try.underlying4 rfl (hS.1.2.2.1.cell 0)) (.both HT.out trivial) ?_
              simp only [Act.put, List.setIfInBounds_toArray, List.set_cons_zero, List.set_cons_succ]
              refine E_move 20 (some 31) _ (.bool false) rfl (by kernel_rfl) (by rfl) (fun _ _ _ h => h) (by rfl) (.both HT.out trivial) ?_
              simp only [Act.put, List.setIfInBounds_toArray, List.set_cons_zero, List.set_cons_succ]
              refine E_not 21 (some 32) _ rfl (by kernel_rfl) (by rfl) (fun _ _ _ h => h) (.both HT.out trivial) ?_
              simp only [Act.put, List.setIfInBounds_toArray, List.set_cons_zero, List.set_cons_succ]
              refine E_not 22 (some 33) _ rfl (by kernel_rfl) (by rfl) (fun _ _ _ h => h) (.both HT.out trivial) ?_
              simp only [Act.put, List.setIfInBounds_toArray, List.set_cons_zero, List.set_cons_succ]
              refine E_not 23 (some 34) _ rfl (by kernel_rfl) (by rfl) (fun _ _ _ h => h) (.both HT.out trivial) ?_
              simp only [Act.put, List.setIfInBounds_toArray, List.set_cons_zero, List.set_cons_succ]
              refine E_not 24 (some 35) _ rfl (by kernel_rfl) (by rfl) (fun _ _ _ h => h) (.both HT.out trivial) ?_
              simp only [Act.put, List.setIfInBounds_toArray, List.set_cons_zero, List.set_cons_succ]
              refine E_not 25 (some 36) _ rfl (by kernel_rfl) (by rfl) (fun _ _ _ h => h) (.both HT.out trivial) ?_
              simp only [Act.put, List.setIfInBounds_toArray, List.set_cons_zero, List.set_cons_succ]
              refine E_not 26 (some 37) _ rfl (by kernel_rfl) (by rfl) (fun _ _ _ h => h) (.both HT.out trivial) ?_
              simp only [Act.put, List.setIfInBounds_toArray, List.set_cons_zero, List.set_cons_succ]
              refine E_pick 27 (some 38) _ _ _ false (.bool false) rfl (by kernel_rfl) (by rfl) (fun _ _ _ h => h) (by rfl) (by rfl) (.both HT.out trivial) ?_
              simp only [Act.put, List.setIfInBounds_toArray, List.set_cons_zero, List.set_cons_succ]
              refine E_pick 28 (some 39) _ _ _ false (.bool false) rfl (by kernel_rfl) (by rfl) (fun _ _ _ h => h) (by rfl) (by rfl) (.both HT.out trivial) ?_
              simp only [Act.put, List.setIfInBounds_toArray, List.set_cons_zero, List.set_cons_succ]
              refine E_move 29 (some 40) _ (.bool false) rfl (by kernel_rfl) (by rfl) (fun _ _ _ h => h) (by rfl) (.both HT.out trivial) ?_
              simp only [Act.put, List.setIfInBounds_toArray, List.set_cons_zero, List.set_cons_succ]
              refine E_load1 false 30 (some 41) 24 _ ⟨b6, 0, none⟩ (.int .i8 op) rfl (by kernel_rfl) (by rfl) (fun _ _ _ h => h) (by rfl) (fun w hS => run_loadVar_one _ _ _ _ Try.underlying24 rfl (hS.1.2.1.cell 0)) (.both HT.out trivial) ?_
              simp only [Act.put, List.setIfInBounds_toArray, List.set_cons_zero, List.set_cons_succ]
              refine E_any false 31 (some 42) _ (.bool false) rfl (by kernel_rfl) (by rfl) (fun _ _ _ h => h) (fun o e w _ => by unfold execOp; simp only [e]; go_simp) (.both HT.out trivial) ?_
              simp only [Act.put, List.setIfInBounds_toArray, List.set_cons_zero, List.set_cons_succ]
              refine E_move 32 (some 43) _ (.bool false) rfl (by kernel_rfl) (by rfl) (fun _ _ _ h => h) (by rfl) (.both HT.out trivial) ?_
              simp only [Act.put, List.setIfInBounds_toArray, List.set_cons_zero, List.set_cons_succ]
              refine E_not 33 (some 44) _ rfl (by kernel_rfl) (by rfl) (fun _ _ _ h => h) (.both HT.out trivial) ?_
              simp only [Act.put, List.setIfInBounds_toArray, List.set_cons_zero, List.set_cons_succ]
              refine E_not 34 (some 45) _ rfl (by kernel_rfl) (by rfl) (fun _ _ _ h => h) (.both HT.out trivial) ?_
              simp only [Act.put, List.setIfInBounds_toArray, List.set_cons_zero, List.set_cons_succ]
              refine E_pick 35 (some 46) _ _ _ false (.bool false) rfl (by kernel_rfl) (by rfl) (fun _ _ _ h => h) (by rfl) (by rfl) (.both HT.out trivial) ?_
              simp only [Act.put, List.setIfInBounds_toArray, List.set_cons_zero, List.set_cons_succ]
              refine E_pick 36 (some 47) _ _ _ false (.bool false) rfl (by kernel_rfl) (by rfl) (fun _ _ _ h => h) (by rfl) (by rfl) (.both HT.out trivial) ?_
              simp only [Act.put, List.setIfInBounds_toArray, List.set_cons_zero, List.set_cons_succ]
              refine E_move 37 (some 48) _ (.bool false) rfl (by kernel_rfl) (by rfl) (fun _ _ _ h => h) (by rfl) (.both HT.out trivial) ?_
              simp only [Act.put, List.setIfInBounds_toArray, List.set_cons_zero, List.set_cons_succ]
              refine E_load1 false 38 (some 49) 24 _ ⟨b6, 0, none⟩ (.int .i8 op) rfl (by kernel_rfl) (by rfl) (fun _ _ _ h => h) (by rfl) (fun w hS => run_loadVar_one _ _ _ _ Try.underlying24 rfl (hS.1.2.1.cell 0)) (.both HT.out trivial) ?_
              simp only [Act.put, List.setIfInBounds_toArray, List.set_cons_zero, List.set_cons_succ]
              refine E_any false 39 (some 50) _ (.bool true) rfl (by kernel_rfl) (by rfl) (fun _ _ _ h => h) (fun o e w _ => by unfold execOp; simp only [e]; go_simp) (.both HT.out trivial) ?_
              simp only [Act.put, List.setIfInBounds_toArray, List.set_cons_zero, List.set_cons_succ]
              refine E_move 40 (some 51) _ (.bool true) rfl (by kernel_rfl) (by rfl) (fun _ _ _ h => h) (by rfl) (.both HT.out trivial) ?_
              simp only [Act.put, List.setIfInBounds_toArray, List.set_cons_zero, List.set_cons_succ]
              refine E_load1 false 41 (some 52) 46 _ ⟨b19, 0, none⟩ (.int .u64 d) rfl (by kernel_rfl) (by rfl) (fun _ _ _ h => h) (by rfl) (fun w hS => run_loadVar_one _ _ _ _ Try.underlying46 rfl (hS.1.1.cell 0)) (.both HT.out trivial) ?_
              simp only [Act.put, List.setIfInBounds_toArray, List.set_cons_zero, List.set_cons_succ]
              refine E_load1 false 42 (some 53) 24 _ ⟨b7, 0, none⟩ (.int .i8 x) rfl (by kernel_rfl) (by rfl) (fun _ _ _ h => h) (by rfl) (fun w hS => run_loadVar_one _ _ _ _ Try.underlying24 rfl (hS.1.2.2.2.cell 0)) (.both HT.out trivial) ?_
              simp only [Act.put, List.setIfInBounds_toArray, List.set_cons_zero, List.set_cons_succ]
              refine E_one 43 (by kernel_rfl) (StepE.of 43 (some 54) _ rfl (by rfl) fun o K h2 h3 hKK => ?_)
              unfold Oper.wp execOp
              simp only [h3]
              go_simp
              refine (HCM.out _).mono ?_
              rintro e w' ⟨rfl, rfl⟩
              dsimp only
              refine hKK _ _ (.both HT.out trivial) ?_
              clear hKK h2 h3 K o
              try simp only [Act.put, List.setIfInBounds_toArray, List.set_cons_zero, List.set_cons_succ]
              refine E_any false 44 (some 55) _ (.bool false) rfl (by kernel_rfl) (by rfl) (fun _ _ _ h => h) (fun o e w _ => by unfold execOp; simp only [e]; go_simp) (.both HT.out trivial) ?_
              simp only [Act.put, List.setIfInBounds_toArray, List.set_cons_zero, List.set_cons_succ]
              refine E_pick 45 (some 56) _ _ _ true (.bool false) rfl (by kernel_rfl) (by rfl) (fun _ _ _ h => h) (by rfl) (by rfl) (.both HT.out trivial) ?_
              simp only [Act.put, List.setIfInBounds_toArray, List.set_cons_zero, List.set_cons_succ]
              refine E_pick 46 (some 57) _ _ _ false (.bool false) rfl (by kernel_rfl) (by rfl) (fun _ _ _ h => h) (by rfl) (by rfl) (.both HT.out trivial) ?_
              simp only [Act.put, List.setIfInBounds_toArray, List.set_cons_zero, List.set_cons_succ]
              refine E_one 47 (by kernel_rfl) (StepE.assign 47 (some 10) _ (.bool false) rfl (by rfl) (by rfl) (.both HT.out trivial) ?_)
              simp only [Act.put, List.setIfInBounds_toArray, List.set_cons_zero, List.set_cons_succ]
              refine wpAnyE_done (by kernel_rfl) ?_ _
              go_wp2
              go_meet
              case rel => exact ⟨by rw [← HS.out, show sameB op x d = false by unfold sameB; rw [HSH.out, HM.out]; simp [hd, h2, h5, hc]], HPd.out, HL.out⟩
            · skip
              refine wp_region_E (fun w' => Blk w' b19 46 #[.int .u64 d] ∧ Blk w' b6 24 #[.int .i8 op] ∧ Blk w' b24 4 #[.bool false] ∧ Blk w' b7 24 #[.int .i8 x]) (fun _ => True) [] (by kernel_rfl) ?_
              have HPd := hide (HP0.out.step ((Below.refl _ _).drew))
              have HL := hide (HL0.out.trans (((Below.refl _ _).drew).mono HL0.out.size))
              have HT := hide (⟨(HPd.out.blk HE.out.e19.1 HE.out.e19.2).1, (HPd.out.blk HE.out.e6.1 HE.out.e6.2).1, (HPd.out.blk HE.out.e24.1 HE.out.e24.2).1, (HPd.out.blk HE.out.e7.1 HE.out.e7.2).1⟩ : Blk W.drew b19 46 #[.int .u64 d] ∧ Blk W.drew b6 24 #[.int .i8 op] ∧ Blk W.drew b24 4 #[.bool false] ∧ Blk W.drew b7 24 #[.int .i8 x])
              clear HP0 HL0 c19 c6 c24 c7
              generalize W.drew = Wd at HT HPd HL ⊢
              refine E_load1 false 0 (some 11) 46 _ ⟨b19, 0, none⟩ (.int .u64 d) rfl (by kernel_rfl) (by rfl) (fun _ _ _ h => h) (by rfl) (fun w hS => run_loadVar_one _ _ _ _ Try.underlying46 rfl (hS.1.1.cell 0)) (.both HT.out trivial) ?_
              simp only [Act.put, List.setIfInBounds_toArray, List.set_cons_zero, List.set_cons_succ]
              refine E_any false 1 (some 12) _ (.bool false) rfl (by kernel_rfl) (by rfl) (fun _ _ _ h => h) (fun o e w _ => by unfold execOp; simp only [e]; go_simp) (.both HT.out trivial) ?_
              simp only [Act.put, List.setIfInBounds_toArray, List.set_cons_zero, List.set_cons_succ]
              refine E_move 2 (some 13) _ (.bool false) rfl (by kernel_rfl) (by rfl) (fun _ _ _ h => h) (by rfl) (.both HT.out trivial) ?_
              simp only [Act.put, List.setIfInBounds_toArray, List.set_cons_zero, List.set_cons_succ]
              refine E_not 3 (some 14) _ rfl (by kernel_rfl) (by rfl) (fun _ _ _ h => h) (.both HT.out trivial) ?_
              simp only [Act.put, List.setIfInBounds_toArray, List.set_cons_zero, List.set_cons_succ]
              refine E_not 4 (some 15) _ rfl (by kernel_rfl) (by rfl) (fun _ _ _ h => h) (.both HT.out trivial) ?_
              simp only [Act.put, List.setIfInBounds_toArray, List.set_cons_zero, List.set_cons_succ]
              refine E_not 5 (some 16) _ rfl (by kernel_rfl) (by rfl) (fun _ _ _ h => h) (.both HT.out trivial) ?_
              simp only [Act.put, List.setIfInBounds_toArray, List.set_cons_zero, List.set_cons_succ]
              refine E_not 6 (some 17) _ rfl (by kernel_rfl) (by rfl) (fun _ _ _ h => h) (.both HT.out trivial) ?_
              simp only [Act.put, List.setIfInBounds_toArray, List.set_cons_zero, List.set_cons_succ]
              refine E_not 7 (some 18) _ rfl (by kernel_rfl) (by rfl) (fun _ _ _ h => h) (.both HT.out trivial) ?_
              simp only [Act.put, List.setIfInBounds_toArray, List.set_cons_zero, List.set_cons_succ]
              refine E_not 8 (some 19) _ rfl (by kernel_rfl) (by rfl) (fun _ _ _ h => h) (.both HT.out trivial) ?_
              simp only [Act.put, List.setIfInBounds_toArray, List.set_cons_zero, List.set_cons_succ]
              refine E_not 9 (some 20) _ rfl (by kernel_rfl) (by rfl) (fun _ _ _ h => h) (.both HT.out trivial) ?_
              simp only [Act.put, List.setIfInBounds_toArray, List.set_cons_zero, List.set_cons_succ]
              refine E_not 10 (some 21) _ rfl (by kernel_rfl) (by rfl) (fun _ _ _ h => h) (.both HT.out trivial) ?_
              simp only [Act.put, List.setIfInBounds_toArray, List.set_cons_zero, List.set_cons_succ]
              refine E_not 11 (some 22) _ rfl (by kernel_rfl) (by rfl) (fun _ _ _ h => h) (.both HT.out trivial) ?_
              simp only [Act.put, List.setIfInBounds_toArray, List.set_cons_zero, List.set_cons_succ]
              refine E_not 12 (some 23) _ rfl (by kernel_rfl) (by rfl) (fun _ _ _ h => h) (.both HT.out trivial) ?_
              simp only [Act.put, List.setIfInBounds_toArray, List.set_cons_zero, List.set_cons_succ]
              refine E_not 13 (some 24) _ rfl (by kernel_rfl) (by rfl) (fun _ _ _ h => h) (.both HT.out trivial) ?_
              simp only [Act.put, List.setIfInBounds_toArray, List.set_cons_zero, List.set_cons_succ]
              refine E_not 14 (some 25) _ rfl (by kernel_rfl) (by rfl) (fun _ _ _ h => h) (.both HT.out trivial) ?_
              simp only [Act.put, List.setIfInBounds_toArray, List.set_cons_zero, List.set_cons_succ]
              refine E_not 15 (some 26) _ rfl (by kernel_rfl) (by rfl) (fun _ _ _ h => h) (.both HT.out trivial) ?_
              simp only [Act.put, List.setIfInBounds_toArray, List.set_cons_zero, List.set_cons_succ]
              refine E_not 16 (some 27) _ rfl (by kernel_rfl) (by rfl) (fun _ _ _ h => h) (.both HT.out trivial) ?_
              simp only [Act.put, List.setIfInBounds_toArray, List.set_cons_zero, List.set_cons_succ]
              refine E_pick 17 (some 28) _ _ _ false (.bool false) rfl (by kernel_rfl) (by rfl) (fun _ _ _ h => h) (by rfl) (by rfl) (.both HT.out trivial) ?_
              simp only [Act.put, List.setIfInBounds_toArray, List.set_cons_zero, List.set_cons_succ]
              refine E_move 18 (some 29) _ (.bool false) rfl (by kernel_rfl) (by rfl) (fun _ _ _ h => h) (by rfl) (.both HT.out trivial) ?_
              simp only [Act.put, List.setIfInBounds_toArray, List.set_cons_zero, List.set_cons_succ]
              refine E_load1 false 19 (some 30) 4 _ ⟨b24, 0, none⟩ (.bool false) rfl (by kernel_rfl) (by rfl) (fun _ _ _ h => h) (by rfl) (fun w hS => run_loadVar_one _ _ _ _ Try.underlying4 rfl (hS.1.2.2.1.cell 0)) (.both HT.out trivial) ?_
              simp only [Act.put, List.setIfInBounds_toArray, List.set_cons_zero, List.set_cons_succ]
              refine E_move 20 (some 31) _ (.bool false) rfl (by kernel_rfl) (by rfl) (fun _ _ _ h => h) (by rfl) (.both HT.out trivial) ?_
              simp only [Act.put, List.setIfInBounds_toArray, List.set_cons_zero, List.set_cons_succ]
              refine E_not 21 (some 32) _ rfl (by kernel_rfl) (by rfl) (fun _ _ _ h => h) (.both HT.out trivial) ?_
              simp only [Act.put, List.setIfInBounds_toArray, List.set_cons_zero, List.set_cons_succ]
              refine E_not 22 (some 33) _ rfl (by kernel_rfl) (by rfl) (fun _ _ _ h => h) (.both HT.out trivial) ?_
              simp only [Act.put, List.setIfInBounds_toArray, List.set_cons_zero, List.set_cons_succ]
              refine E_not 23 (some 34) _ rfl (by kernel_rfl) (by rfl) (fun _ _ _ h => h) (.both HT.out trivial) ?_
              simp only [Act.put, List.setIfInBounds_toArray, List.set_cons_zero, List.set_cons_succ]
              refine E_not 24 (some 35) _ rfl (by kernel_rfl) (by rfl) (fun _ _ _ h => h) (.both HT.out trivial) ?_
              simp only [Act.put, List.setIfInBounds_toArray, List.set_cons_zero, List.set_cons_succ]
              refine E_not 25 (some 36) _ rfl (by kernel_rfl) (by rfl) (fun _ _ _ h => h) (.both HT.out trivial) ?_
              simp only [Act.put, List.setIfInBounds_toArray, List.set_cons_zero, List.set_cons_succ]
              refine E_not 26 (some 37) _ rfl (by kernel_rfl) (by rfl) (fun _ _ _ h => h) (.both HT.out trivial) ?_
              simp only [Act.put, List.setIfInBounds_toArray, List.set_cons_zero, List.set_cons_succ]
              refine E_pick 27 (some 38) _ _ _ false (.bool false) rfl (by kernel_rfl) (by rfl) (fun _ _ _ h => h) (by rfl) (by rfl) (.both HT.out trivial) ?_
              simp only [Act.put, List.setIfInBounds_toArray, List.set_cons_zero, List.set_cons_succ]
              refine E_pick 28 (some 39) _ _ _ false (.bool false) rfl (by kernel_rfl) (by rfl) (fun _ _ _ h => h) (by rfl) (by rfl) (.both HT.out trivial) ?_
              simp only [Act.put, List.setIfInBounds_toArray, List.set_cons_zero, List.set_cons_succ]
              refine E_move 29 (some 40) _ (.bool false) rfl (by kernel_rfl) (by rfl) (fun _ _ _ h => h) (by rfl) (.both HT.out trivial) ?_
              simp only [Act.put, List.setIfInBounds_toArray, List.set_cons_zero, List.set_cons_succ]
              refine E_load1 false 30 (some 41) 24 _ ⟨b6, 0, none⟩ (.int .i8 op) rfl (by kernel_rfl) (by rfl) (fun _ _ _ h => h) (by rfl) (fun w hS => run_loadVar_one _ _ _ _ Try.underlying24 rfl (hS.1.2.1.cell 0)) (.both HT.out trivial) ?_
              simp only [Act.put, List.setIfInBounds_toArray, List.set_cons_zero, List.set_cons_succ]
              refine E_any false 31 (some 42) _ (.bool false) rfl (by kernel_rfl) (by rfl) (fun _ _ _ h => h) (fun o e w _ => by unfold execOp; simp only [e]; go_simp) (.both HT.out trivial) ?_
              simp only [Act.put, List.setIfInBounds_toArray, List.set_cons_zero, List.set_cons_succ]
              refine E_move 32 (some 43) _ (.bool false) rfl (by kernel_rfl) (by rfl) (fun _ _ _ h => h) (by rfl) (.both HT.out trivial) ?_
              simp only [Act.put, List.setIfInBounds_toArray, List.set_cons_zero, List.set_cons_succ]
              refine E_not 33 (some 44) _ rfl (by kernel_rfl) (by rfl) (fun _ _ _ h => h) (.both HT.out trivial) ?_
              simp only [Act.put, List.setIfInBounds_toArray, List.set_cons_zero, List.set_cons_succ]
              refine E_not 34 (some 45) _ rfl (by kernel_rfl) (by rfl) (fun _ _ _ h => h) (.both HT.out trivial) ?_
              simp only [Act.put, List.setIfInBounds_toArray, List.set_cons_zero, List.set_cons_succ]
              refine E_pick 35 (some 46) _ _ _ false (.bool false) rfl (by kernel_rfl) (by rfl) (fun _ _ _ h => h) (by rfl) (by rfl) (.both HT.out trivial) ?_
              simp only [Act.put, List.setIfInBounds_toArray, List.set_cons_zero, List.set_cons_succ]
              refine E_pick 36 (some 47) _ _ _ false (.bool false) rfl (by kernel_rfl) (by rfl) (fun _ _ _ h => h) (by rfl) (by rfl) (.both HT.out trivial) ?_
              simp only [Act.put, List.setIfInBounds_toArray, List.set_cons_zero, List.set_cons_succ]
              refine E_move 37 (some 48) _ (.bool false) rfl (by kernel_rfl) (by rfl) (fun _ _ _ h => h) (by rfl) (.both HT.out trivial) ?_
              simp only [Act.put, List.setIfInBounds_toArray, List.set_cons_zero, List.set_cons_succ]
              refine E_load1 false 38 (some 49) 24 _ ⟨b6, 0, none⟩ (.int .i8 op) rfl (by kernel_rfl) (by rfl) (fun _ _ _ h => h) (by rfl) (fun w hS => run_loadVar_one _ _ _ _ Try.underlying24 rfl (hS.1.2.1.cell 0)) (.both HT.out trivial) ?_
              simp only [Act.put, List.setIfInBounds_toArray, List.set_cons_zero, List.set_cons_succ]
              refine E_any false 39 (some 50) _ (.bool true) rfl (by kernel_rfl) (by rfl) (fun _ _ _ h => h) (fun o e w _ => by unfold execOp; simp only [e]; go_simp) (.both HT.out trivial) ?_
              simp only [Act.put, List.setIfInBounds_toArray, List.set_cons_zero, List.set_cons_succ]
              refine E_move 40 (some 51) _ (.bool true) rfl (by kernel_rfl) (by rfl) (fun _ _ _ h => h) (by rfl) (.both HT.out trivial) ?_
              simp only [Act.put, List.setIfInBounds_toArray, List.set_cons_zero, List.set_cons_succ]
              refine E_load1 false 41 (some 52) 46 _ ⟨b19, 0, none⟩ (.int .u64 d) rfl (by kernel_rfl) (by rfl) (fun _ _ _ h => h) (by rfl) (fun w hS => run_loadVar_one _ _ _ _ Try.underlying46 rfl (hS.1.1.cell 0)) (.both HT.out trivial) ?_
              simp only [Act.put, List.setIfInBounds_toArray, List.set_cons_zero, List.set_cons_succ]
              refine E_load1 false 42 (some 53) 24 _ ⟨b7, 0, none⟩ (.int .i8 x) rfl (by kernel_rfl) (by rfl) (fun _ _ _ h => h) (by rfl) (fun w hS => run_loadVar_one _ _ _ _ Try.underlying24 rfl (hS.1.2.2.2.cell 0)) (.both HT.out trivial) ?_
              simp only [Act.put, List.setIfInBounds_toArray, List.set_cons_zero, List.set_cons_succ]
              refine E_one 43 (by kernel_rfl) (StepE.of 43 (some 54) _ rfl (by rfl) fun o K h2 h3 hKK => ?_)
              unfold Oper.wp execOp
              simp only [h3]
              go_simp
              refine (HCM.out _).mono ?_
              rintro e w' ⟨rfl, rfl⟩
              dsimp only
              refine hKK _ _ (.both HT.out trivial) ?_
              clear hKK h2 h3 K o
              try simp only [Act.put, List.setIfInBounds_toArray, List.set_cons_zero, List.set_cons_succ]
              refine E_any false 44 (some 55) _ (.bool true) rfl (by kernel_rfl) (by rfl) (fun _ _ _ h => h) (fun o e w _ => by unfold execOp; simp only [e]; go_simp) (.both HT.out trivial) ?_
              simp only [Act.put, List.setIfInBounds_toArray, List.set_cons_zero, List.set_cons_succ]
              refine E_pick 45 (some 56) _ _ _ true (.bool true) rfl (by kernel_rfl) (by rfl) (fun _ _ _ h => h) (by rfl) (by rfl) (.both HT.out trivial) ?_
              simp only [Act.put, List.setIfInBounds_toArray, List.set_cons_zero, List.set_cons_succ]
              refine E_pick 46 (some 57) _ _ _ false (.bool true) rfl (by kernel_rfl) (by rfl) (fun _ _ _ h => h) (by rfl) (by rfl) (.both HT.out trivial) ?_
              simp only [Act.put, List.setIfInBounds_toArray, List.set_cons_zero, List.set_cons_succ]
              refine E_one 47 (by kernel_rfl) (StepE.assign 47 (some 10) _ (.bool true) rfl (by rfl) (by rfl) (.both HT.out trivial) ?_)
              simp only [Act.put, List.setIfInBounds_toArray, List.set_cons_zero, List.set_cons_succ]
              refine wpAnyE_done (by kernel_rfl) ?_ _
              go_wp2
              go_meet
              case rel => exact ⟨by rw [← HS.out, show sameB op x d = true by unfold sameB; rw [HSH.out, HM.out]; simp [hd, h2, h5, hc]], HPd.out, HL.out⟩
        · skip
          have h5 : (op == 5) = false := by simp at h2; subst h2; rfl
          cases hc : (d == 1)
          · skip
            go_wp2_with fail
            go_quiet ((go_at_call 47; refine Calls.quiet_of_same (HCM.out _)))
            go_wp2
            go_meet
            case rel => exact ⟨by rw [← HS.out, show sameB op x d = false by unfold sameB; rw [HSH.out, HM.out]; simp [hd, h2, h5, hc]], HP0.out.step (below_drewN (Below.refl _ _) nq), HL0.out.trans ((below_drewN (Below.refl _ _) nq).mono HL0.out.size)⟩
          · skip
            go_wp2_with fail
            go_quiet ((go_at_call 47; refine Calls.quiet_of_same (HCM.out _)))
            go_wp2
            go_meet
            case rel => exact ⟨by rw [← HS.out, show sameB op x d = true by unfold sameB; rw [HSH.out, HM.out]; simp [hd, h2, h5, hc]], HP0.out.step (below_drewN (Below.refl _ _) nq), HL0.out.trans ((below_drewN (Below.refl _ _) nq).mono HL0.out.size)⟩
      · skip
        have h2 : (op == 2) = false := by have q := HSH.out; unfold shiftsB at q; cases e : (op == 2) with
          | false => rfl
          | true => simp at e; subst e; simp at q
        have h5 : (op == 5) = false := by have q := HSH.out; unfold shiftsB at q; cases e : (op == 5) with
          | false => rfl
          | true => simp at e; subst e; simp at q
        cases hz : (bits .and .u64 d (x - 1) == 0)
        · skip
          go_wp2_with fail
          go_quiet ((go_at_call 47; refine Calls.quiet_of_same (HCM.out _)))
          go_wp2
          go_meet
          case rel => exact ⟨by rw [← HS.out, show sameB op x d = false by unfold sameB; rw [HSH.out, HM.out]; simp [hd, hz, h2, h5]], HP0.out.step (below_drewN (Below.refl _ _) nq), HL0.out.trans ((below_drewN (Below.refl _ _) nq).mono HL0.out.size)⟩
        · skip
          go_wp2_with fail
          go_quiet ((go_at_call 47; refine Calls.quiet_of_same (HCM.out _)))
          go_wp2
          go_meet
          case rel => exact ⟨by rw [← HS.out, show sameB op x d = true by unfold sameB; rw [HSH.out, HM.out]; simp [hd, hz]], HP0.out.step (below_drewN (Below.refl _ _) nq), HL0.out.trans ((below_drewN (Below.refl _ _) nq).mono HL0.out.size)⟩
    · skip
      cases h0 : (op == 0)
      · skip
        cases h4 : (op == 4)
        · skip
          cases h10 : (op == 10)
          · skip
            cases h9 : (op == 9)
            · skip
              have hd1 : (d == 1) = false := by simp at hd; subst hd; rfl
              cases sh
              · skip
                cases h2 : (op == 2)
                · skip
                  cases h5 : (op == 5)
                  · skip
                    go_wp2_with fail
                    go_quiet ((go_at_call 47; refine Calls.quiet_of_same (HCM.out _)))
                    go_wp2
                    go_meet
                    case rel => exact ⟨by rw [← HS.out, show sameB op x d = false by unfold sameB; rw [HSH.out, HM.out]; simp [hd, h0, h4, h10, h9, h2, h5]], HP0.out.step (below_drewN (Below.refl _ _) nq), HL0.out.trans ((below_drewN (Below.refl _ _) nq).mono HL0.out.size)⟩
                  · skip
                    cases hc : (d == M)
                    · skip
                      refine wp_region_E (fun w' => Blk w' b19 46 #[.int .u64 d] ∧ Blk w' b6 24 #[.int .i8 op] ∧ Blk w' b24 4 #[.bool false] ∧ Blk w' b7 24 #[.int .i8 x]) (fun _ => True) [] (by kernel_rfl) ?_
                      have HPd := hide (HP0.out.step ((Below.refl _ _).drew))
                      have HL := hide (HL0.out.trans (((Below.refl _ _).drew).mono HL0.out.size))
                      have HT := hide (⟨(HPd.out.blk HE.out.e19.1 HE.out.e19.2).1, (HPd.out.blk HE.out.e6.1 HE.out.e6.2).1, (HPd.out.blk HE.out.e24.1 HE.out.e24.2).1, (HPd.out.blk HE.out.e7.1 HE.out.e7.2).1⟩ : Blk W.drew b19 46 #[.int .u64 d] ∧ Blk W.drew b6 24 #[.int .i8 op] ∧ Blk W.drew b24 4 #[.bool false] ∧ Blk W.drew b7 24 #[.int .i8 x])
                      clear HP0 HL0 c19 c6 c24 c7
                      generalize W.drew = Wd at HT HPd HL ⊢
                      refine E_load1 false 0 (some 11) 46 _ ⟨b19, 0, none⟩ (.int .u64 d) rfl (by kernel_rfl) (by rfl) (fun _ _ _ h => h) (by rfl) (fun w hS => run_loadVar_one _ _ _ _ Try.underlying46 rfl (hS.1.1.cell 0)) (.both HT.out trivial) ?_
                      simp only [Act.put, List.setIfInBounds_toArray, List.set_cons_zero, List.set_cons_succ]
                      refine E_any false 1 (some 12) _ (.bool true) rfl (by kernel_rfl) (by rfl) (fun _ _ _ h => h) (fun o e w _ => by unfold execOp; simp only [e]; go_simp) (.both HT.out trivial) ?_
                      simp only [Act.put, List.setIfInBounds_toArray, List.set_cons_zero, List.set_cons_succ]
                      refine E_move 2 (some 13) _ (.bool true) rfl (by kernel_rfl) (by rfl) (fun _ _ _ h => h) (by rfl) (.both HT.out trivial) ?_
                      simp only [Act.put, List.setIfInBounds_toArray, List.set_cons_zero, List.set_cons_succ]
                      refine E_load1 false 3 (some 14) 24 _ ⟨b6, 0, none⟩ (.int .i8 op) rfl (by kernel_rfl) (by rfl) (fun _ _ _ h => h) (by rfl) (fun w hS => run_loadVar_one _ _ _ _ Try.underlying24 rfl (hS.1.2.1.cell 0)) (.both HT.out trivial) ?_
                      simp only [Act.put, List.setIfInBounds_toArray, List.set_cons_zero, List.set_cons_succ]
                      refine E_any false 4 (some 15) _ (.bool false) rfl (by kernel_rfl) (by rfl) (fun _ _ _ h => h) (fun o e w _ => by unfold execOp; simp only [e]; go_simp) (.both HT.out trivial) ?_
                      simp only [Act.put, List.setIfInBounds_toArray, List.set_cons_zero, List.set_cons_succ]
                      refine E_move 5 (some 16) _ (.bool false) rfl (by kernel_rfl) (by rfl) (fun _ _ _ h => h) (by rfl) (.both HT.out trivial) ?_
                      simp only [Act.put, List.setIfInBounds_toArray, List.set_cons_zero, List.set_cons_succ]
                      refine E_load1 false 6 (some 17) 24 _ ⟨b6, 0, none⟩ (.int .i8 op) rfl (by kernel_rfl) (by rfl) (fun _ _ _ h => h) (by rfl) (fun w hS => run_loadVar_one _ _ _ _ Try.underlying24 rfl (hS.1.2.1.cell 0)) (.both HT.out trivial) ?_
                      simp only [Act.put, List.setIfInBounds_toArray, List.set_cons_zero, List.set_cons_succ]
                      refine E_any false 7 (some 18) _ (.bool false) rfl (by kernel_rfl) (by rfl) (fun _ _ _ h => h) (fun o e w _ => by unfold execOp; simp only [e]; go_simp) (.both HT.out trivial) ?_
                      simp only [Act.put, List.setIfInBounds_toArray, List.set_cons_zero, List.set_cons_succ]
                      refine E_pick 8 (some 19) _ _ _ false (.bool false) rfl (by kernel_rfl) (by rfl) (fun _ _ _ h => h) (by rfl) (by rfl) (.both HT.out trivial) ?_
                      simp only [Act.put, List.setIfInBounds_toArray, List.set_cons_zero, List.set_cons_succ]
                      refine E_move 9 (some 20) _ (.bool false) rfl (by kernel_rfl) (by rfl) (fun _ _ _ h => h) (by rfl) (.both HT.out trivial) ?_
                      simp only [Act.put, List.setIfInBounds_toArray, List.set_cons_zero, List.set_cons_succ]
                      refine E_load1 false 10 (some 21) 24 _ ⟨b6, 0, none⟩ (.int .i8 op) rfl (by kernel_rfl) (by rfl) (fun _ _ _ h => h) (by rfl) (fun w hS => run_loadVar_one _ _ _ _ Try.underlying24 rfl (hS.1.2.1.cell 0)) (.both HT.out trivial) ?_
                      simp only [Act.put, List.setIfInBounds_toArray, List.set_cons_zero, List.set_cons_succ]
                      refine E_any false 11 (some 22) _ (.bool false) rfl (by kernel_rfl) (by rfl) (fun _ _ _ h => h) (fun o e w _ => by unfold execOp; simp only [e]; go_simp) (.both HT.out trivial) ?_
                      simp only [Act.put, List.setIfInBounds_toArray, List.set_cons_zero, List.set_cons_succ]
                      refine E_pick 12 (some 23) _ _ _ false (.bool false) rfl (by kernel_rfl) (by rfl) (fun _ _ _ h => h) (by rfl) (by rfl) (.both HT.out trivial) ?_
                      simp only [Act.put, List.setIfInBounds_toArray, List.set_cons_zero, List.set_cons_succ]
                      refine E_move 13 (some 24) _ (.bool false) rfl (by kernel_rfl) (by rfl) (fun _ _ _ h => h) (by rfl) (.both HT.out trivial) ?_
                      simp only [Act.put, List.setIfInBounds_toArray, List.set_cons_zero, List.set_cons_succ]
                      refine E_load1 false 14 (some 25) 24 _ ⟨b6, 0, none⟩ (.int .i8 op) rfl (by kernel_rfl) (by rfl) (fun _ _ _ h => h) (by rfl) (fun w hS => run_loadVar_one _ _ _ _ Try.underlying24 rfl (hS.1.2.1.cell 0)) (.both HT.out trivial) ?_
                      simp only [Act.put, List.setIfInBounds_toArray, List.set_cons_zero, List.set_cons_succ]
                      refine E_any false 15 (some 26) _ (.bool false) rfl (by kernel_rfl) (by rfl) (fun _ _ _ h => h) (fun o e w _ => by unfold execOp; simp only [e]; go_simp) (.both HT.out trivial) ?_
                      simp only [Act.put, List.setIfInBounds_toArray, List.set_cons_zero, List.set_cons_succ]
                      refine E_pick 16 (some 27) _ _ _ false (.bool false) rfl (by kernel_rfl) (by rfl) (fun _ _ _ h => h) (by rfl) (by rfl) (.both HT.out trivial) ?_
                      simp only [Act.put, List.setIfInBounds_toArray, List.set_cons_zero, List.set_cons_succ]
                      refine E_pick 17 (some 28) _ _ _ true (.bool false) rfl (by kernel_rfl) (by rfl) (fun _ _ _ h => h) (by rfl) (by rfl) (.both HT.out trivial) ?_
                      simp only [Act.put, List.setIfInBounds_toArray, List.set_cons_zero, List.set_cons_succ]
                      refine E_move 18 (some 29) _ (.bool false) rfl (by kernel_rfl) (by rfl) (fun _ _ _ h => h) (by rfl) (.both HT.out trivial) ?_
                      simp only [Act.put, List.setIfInBounds_toArray, List.set_cons_zero, List.set_cons_succ]
                      refine E_load1 false 19 (some 30) 4 _ ⟨b24, 0, none⟩ (.bool false) rfl (by kernel_rfl) (by rfl) (fun _ _ _ h => h) (by rfl) (fun w hS => run_loadVar_one _ _ _ _ Try.underlying4 rfl (hS.1.2.2.1.cell 0)) (.both HT.out trivial) ?_
                      simp only [Act.put, List.setIfInBounds_toArray, List.set_cons_zero, List.set_cons_succ]
                      refine E_move 20 (some 31) _ (.bool false) rfl (by kernel_rfl) (by rfl) (fun _ _ _ h => h) (by rfl) (.both HT.out trivial) ?_
                      simp only [Act.put, List.setIfInBounds_toArray, List.set_cons_zero, List.set_cons_succ]
                      refine E_not 21 (some 32) _ rfl (by kernel_rfl) (by rfl) (fun _ _ _ h => h) (.both HT.out trivial) ?_
                      simp only [Act.put, List.setIfInBounds_toArray, List.set_cons_zero, List.set_cons_succ]
                      refine E_not 22 (some 33) _ rfl (by kernel_rfl) (by rfl) (fun _ _ _ h => h) (.both HT.out trivial) ?_
                      simp only [Act.put, List.setIfInBounds_toArray, List.set_cons_zero, List.set_cons_succ]
                      refine E_not 23 (some 34) _ rfl (by kernel_rfl) (by rfl) (fun _ _ _ h => h) (.both HT.out trivial) ?_
                      simp only [Act.put, List.setIfInBounds_toArray, List.set_cons_zero, List.set_cons_succ]
                      refine E_not 24 (some 35) _ rfl (by kernel_rfl) (by rfl) (fun _ _ _ h => h) (.both HT.out trivial) ?_
                      simp only [Act.put, List.setIfInBounds_toArray, List.set_cons_zero, List.set_cons_succ]
                      refine E_not 25 (some 36) _ rfl (by kernel_rfl) (by rfl) (fun _ _ _ h => h) (.both HT.out trivial) ?_
                      simp only [Act.put, List.setIfInBounds_toArray, List.set_cons_zero, List.set_cons_succ]
                      refine E_not 26 (some 37) _ rfl (by kernel_rfl) (by rfl) (fun _ _ _ h => h) (.both HT.out trivial) ?_
                      simp only [Act.put, List.setIfInBounds_toArray, List.set_cons_zero, List.set_cons_succ]
                      refine E_pick 27 (some 38) _ _ _ false (.bool false) rfl (by kernel_rfl) (by rfl) (fun _ _ _ h => h) (by rfl) (by rfl) (.both HT.out trivial) ?_
                      simp only [Act.put, List.setIfInBounds_toArray, List.set_cons_zero, List.set_cons_succ]
                      refine E_pick 28 (some 39) _ _ _ false (.bool false) rfl (by kernel_rfl) (by rfl) (fun _ _ _ h => h) (by rfl) (by rfl) (.both HT.out trivial) ?_
                      simp only [Act.put, List.setIfInBounds_toArray, List.set_cons_zero, List.set_cons_succ]
                      refine E_move 29 (some 40) _ (.bool false) rfl (by kernel_rfl) (by rfl) (fun _ _ _ h => h) (by rfl) (.both HT.out trivial) ?_
                      simp only [Act.put, List.setIfInBounds_toArray, List.set_cons_zero, List.set_cons_succ]
                      refine E_load1 false 30 (some 41) 24 _ ⟨b6, 0, none⟩ (.int .i8 op) rfl (by kernel_rfl) (by rfl) (fun _ _ _ h => h) (by rfl) (fun w hS => run_loadVar_one _ _ _ _ Try.underlying24 rfl (hS.1.2.1.cell 0)) (.both HT.out trivial) ?_
                      simp only [Act.put, List.setIfInBounds_toArray, List.set_cons_zero, List.set_cons_succ]
                      refine E_any false 31 (some 42) _ (.bool false) rfl (by kernel_rfl) (by rfl) (fun _ _ _ h => h) (fun o e w _ => by unfold execOp; simp only [e]; go_simp) (.both HT.out trivial) ?_
                      simp only [Act.put, List.setIfInBounds_toArray, List.set_cons_zero, List.set_cons_succ]
                      refine E_move 32 (some 43) _ (.bool false) rfl (by kernel_rfl) (by rfl) (fun _ _ _ h => h) (by rfl) (.both HT.out trivial) ?_
                      simp only [Act.put, List.setIfInBounds_toArray, List.set_cons_zero, List.set_cons_succ]
                      refine E_not 33 (some 44) _ rfl (by kernel_rfl) (by rfl) (fun _ _ _ h => h) (.both HT.out trivial) ?_
                      simp only [Act.put, List.setIfInBounds_toArray, List.set_cons_zero, List.set_cons_succ]
                      refine E_not 34 (some 45) _ rfl (by kernel_rfl) (by rfl) (fun _ _ _ h => h) (.both HT.out trivial) ?_
                      simp only [Act.put, List.setIfInBounds_toArray, List.set_cons_zero, List.set_cons_succ]
                      refine E_pick 35 (some 46) _ _ _ false (.bool false) rfl (by kernel_rfl) (by rfl) (fun _ _ _ h => h) (by rfl) (by rfl) (.both HT.out trivial) ?_
                      simp only [Act.put, List.setIfInBounds_toArray, List.set_cons_zero, List.set_cons_succ]
                      refine E_pick 36 (some 47) _ _ _ false (.bool false) rfl (by kernel_rfl) (by rfl) (fun _ _ _ h => h) (by rfl) (by rfl) (.both HT.out trivial) ?_
                      simp only [Act.put, List.setIfInBounds_toArray, List.set_cons_zero, List.set_cons_succ]
                      refine E_move 37 (some 48) _ (.bool false) rfl (by kernel_rfl) (by rfl) (fun _ _ _ h => h) (by rfl) (.both HT.out trivial) ?_
                      simp only [Act.put, List.setIfInBounds_toArray, List.set_cons_zero, List.set_cons_succ]
                      refine E_load1 false 38 (some 49) 24 _ ⟨b6, 0, none⟩ (.int .i8 op) rfl (by kernel_rfl) (by rfl) (fun _ _ _ h => h) (by rfl) (fun w hS => run_loadVar_one _ _ _ _ Try.underlying24 rfl (hS.1.2.1.cell 0)) (.both HT.out trivial) ?_
                      simp only [Act.put, List.setIfInBounds_toArray, List.set_cons_zero, List.set_cons_succ]
                      refine E_any false 39 (some 50) _ (.bool true) rfl (by kernel_rfl) (by rfl) (fun _ _ _ h => h) (fun o e w _ => by unfold execOp; simp only [e]; go_simp) (.both HT.out trivial) ?_
                      simp only [Act.put, List.setIfInBounds_toArray, List.set_cons_zero, List.set_cons_succ]
                      refine E_move 40 (some 51) _ (.bool true) rfl (by kernel_rfl) (by rfl) (fun _ _ _ h => h) (by rfl) (.both HT.out trivial) ?_
                      simp only [Act.put, List.setIfInBounds_toArray, List.set_cons_zero, List.set_cons_succ]
                      refine E_load1 false 41 (some 52) 46 _ ⟨b19, 0, none⟩ (.int .u64 d) rfl (by kernel_rfl) (by rfl) (fun _ _ _ h => h) (by rfl) (fun w hS => run_loadVar_one _ _ _ _ Try.underlying46 rfl (hS.1.1.cell 0)) (.both HT.out trivial) ?_
                      simp only [Act.put, List.setIfInBounds_toArray, List.set_cons_zero, List.set_cons_succ]
                      refine E_load1 false 42 (some 53) 24 _ ⟨b7, 0, none⟩ (.int .i8 x) rfl (by kernel_rfl) (by rfl) (fun _ _ _ h => h) (by rfl) (fun w hS => run_loadVar_one _ _ _ _ Try.underlying24 rfl (hS.1.2.2.2.cell 0)) (.both HT.out trivial) ?_
                      simp only [Act.put, List.setIfInBounds_toArray, List.set_cons_zero, List.set_cons_succ]
                      refine E_one 43 (by kernel_rfl) (StepE.of 43 (some 54) _ rfl (by rfl) fun o K h2 h3 hKK => ?_)
                      unfold Oper.wp execOp
                      simp only [h3]
                      go_simp
                      refine (HCM.out _).mono ?_
                      rintro e w' ⟨rfl, rfl⟩
                      dsimp only
                      refine hKK _ _ (.both HT.out trivial) ?_
                      clear hKK h2 h3 K o
                      try simp only [Act.put, List.setIfInBounds_toArray, List.set_cons_zero, List.set_cons_succ]
                      refine E_any false 44 (some 55) _ (.bool false) rfl (by kernel_rfl) (by rfl) (fun _ _ _ h => h) (fun o e w _ => by unfold execOp; simp only [e]; go_simp) (.both HT.out trivial) ?_
                      simp only [Act.put, List.setIfInBounds_toArray, List.set_cons_zero, List.set_cons_succ]
                      refine E_pick 45 (some 56) _ _ _ true (.bool false) rfl (by kernel_rfl) (by rfl) (fun _ _ _ h => h) (by rfl) (by rfl) (.both HT.out trivial) ?_
                      simp only [Act.put, List.setIfInBounds_toArray, List.set_cons_zero, List.set_cons_succ]
                      refine E_pick 46 (some 57) _ _ _ false (.bool false) rfl (by kernel_rfl) (by rfl) (fun _ _ _ h => h) (by rfl) (by rfl) (.both HT.out trivial) ?_
                      simp only [Act.put, List.setIfInBounds_toArray, List.set_cons_zero, List.set_cons_succ]
                      refine E_one 47 (by kernel_rfl) (StepE.assign 47 (some 10) _ (.bool false) rfl (by rfl) (by rfl) (.both HT.out trivial) ?_)
                      simp only [Act.put, List.setIfInBounds_toArray, List.set_cons_zero, List.set_cons_succ]
                      refine wpAnyE_done (by kernel_rfl) ?_ _
                      go_wp2
                      go_meet
                      case rel => exact ⟨by rw [← HS.out, show sameB op x d = false by unfold sameB; rw [HSH.out, HM.out]; simp [hd, h0, h4, h10, h9, h2, h5, hc]], HPd.out, HL.out⟩
                    · skip
                      refine wp_region_E (fun w' => Blk w' b19 46 #[.int .u64 d] ∧ Blk w' b6 24 #[.int .i8 op] ∧ Blk w' b24 4 #[.bool false] ∧ Blk w' b7 24 #[.int .i8 x]) (fun _ => True) [] (by kernel_rfl) ?_
                      have HPd := hide (HP0.out.step ((Below.refl _ _).drew))
                      have HL := hide (HL0.out.trans (((Below.refl _ _).drew).mono HL0.out.size))
                      have HT := hide (⟨(HPd.out.blk HE.out.e19.1 HE.out.e19.2).1, (HPd.out.blk HE.out.e6.1 HE.out.e6.2).1, (HPd.out.blk HE.out.e24.1 HE.out.e24.2).1, (HPd.out.blk HE.out.e7.1 HE.out.e7.2).1⟩ : Blk W.drew b19 46 #[.int .u64 d] ∧ Blk W.drew b6 24 #[.int .i8 op] ∧ Blk W.drew b24 4 #[.bool false] ∧ Blk W.drew b7 24 #[.int .i8 x])
                      clear HP0 HL0 c19 c6 c24 c7
                      generalize W.drew = Wd at HT HPd HL ⊢
                      refine E_load1 false 0 (some 11) 46 _ ⟨b19, 0, none⟩ (.int .u64 d) rfl (by kernel_rfl) (by rfl) (fun _ _ _ h => h) (by rfl) (fun w hS => run_loadVar_one _ _ _ _ Try.underlying46 rfl (hS.1.1.cell 0)) (.both HT.out trivial) ?_
                      simp only [Act.put, List.setIfInBounds_toArray, List.set_cons_zero, List.set_cons_succ]
                      refine E_any false 1 (some 12) _ (.bool true) rfl (by kernel_rfl) (by rfl) (fun _ _ _ h => h) (fun o e w _ => by unfold execOp; simp only [e]; go_simp) (.both HT.out trivial) ?_
                      simp only [Act.put, List.setIfInBounds_toArray, List.set_cons_zero, List.set_cons_succ]
                      refine E_move 2 (some 13) _ (.bool true) rfl (by kernel_rfl) (by rfl) (fun _ _ _ h => h) (by rfl) (.both HT.out trivial) ?_
                      simp only [Act.put, List.setIfInBounds_toArray, List.set_cons_zero, List.set_cons_succ]
                      refine E_load1 false 3 (some 14) 24 _ ⟨b6, 0, none⟩ (.int .i8 op) rfl (by kernel_rfl) (by rfl) (fun _ _ _ h => h) (by rfl) (fun w hS => run_loadVar_one _ _ _ _ Try.underlying24 rfl (hS.1.2.1.cell 0)) (.both HT.out trivial) ?_
                      simp only [Act.put, List.setIfInBounds_toArray, List.set_cons_zero, List.set_cons_succ]
                      refine E_any false 4 (some 15) _ (.bool false) rfl (by kernel_rfl) (by rfl) (fun _ _ _ h => h) (fun o e w _ => by unfold execOp; simp only [e]; go_simp) (.both HT.out trivial) ?_
                      simp only [Act.put, List.setIfInBounds_toArray, List.set_cons_zero, List.set_cons_succ]
                      refine E_move 5 (some 16) _ (.bool false) rfl (by kernel_rfl) (by rfl) (fun _ _ _ h => h) (by rfl) (.both HT.out trivial) ?_
                      simp only [Act.put, List.setIfInBounds_toArray, List.set_cons_zero, List.set_cons_succ]
                      refine E_load1 false 6 (some 17) 24 _ ⟨b6, 0, none⟩ (.int .i8 op) rfl (by kernel_rfl) (by rfl) (fun _ _ _ h => h) (by rfl) (fun w hS => run_loadVar_one _ _ _ _ Try.underlying24 rfl (hS.1.2.1.cell 0)) (.both HT.out trivial) ?_
                      simp only [Act.put, List.setIfInBounds_toArray, List.set_cons_zero, List.set_cons_succ]
                      refine E_any false 7 (some 18) _ (.bool false) rfl (by kernel_rfl) (by rfl) (fun _ _ _ h => h) (fun o e w _ => by unfold execOp; simp only [e]; go_simp) (.both HT.out trivial) ?_
                      simp only [Act.put, List.setIfInBounds_toArray, List.set_cons_zero, List.set_cons_succ]
                      refine E_pick 8 (some 19) _ _ _ false (.bool false) rfl (by kernel_rfl) (by rfl) (fun _ _ _ h => h) (by rfl) (by rfl) (.both HT.out trivial) ?_
                      simp only [Act.put, List.setIfInBounds_toArray, List.set_cons_zero, List.set_cons_succ]
                      refine E_move 9 (some 20) _ (.bool false) rfl (by kernel_rfl) (by rfl) (fun _ _ _ h => h) (by rfl) (.both HT.out trivial) ?_
                      simp only [Act.put, List.setIfInBounds_toArray, List.set_cons_zero, List.set_cons_succ]
                      refine E_load1 false 10 (some 21) 24 _ ⟨b6, 0, none⟩ (.int .i8 op) rfl (by kernel_rfl) (by rfl) (fun _ _ _ h => h) (by rfl) (fun w hS => run_loadVar_one _ _ _ _ Try.underlying24 rfl (hS.1.2.1.cell 0)) (.both HT.out trivial) ?_
                      simp only [Act.put, List.setIfInBounds_toArray, List.set_cons_zero, List.set_cons_succ]
                      refine E_any false 11 (some 22) _ (.bool false) rfl (by kernel_rfl) (by rfl) (fun _ _ _ h => h) (fun o e w _ => by unfold execOp; simp only [e]; go_simp) (.both HT.out trivial) ?_
                      simp only [Act.put, List.setIfInBounds_toArray, List.set_cons_zero, List.set_cons_succ]
                      refine E_pick 12 (some 23) _ _ _ false (.bool false) rfl (by kernel_rfl) (by rfl) (fun _ _ _ h => h) (by rfl) (by rfl) (.both HT.out trivial) ?_
                      simp only [Act.put, List.setIfInBounds_toArray, List.set_cons_zero, List.set_cons_succ]
                      refine E_move 13 (some 24) _ (.bool false) rfl (by kernel_rfl) (by rfl) (fun _ _ _ h => h) (by rfl) (.both HT.out trivial) ?_
                      simp only [Act.put, List.setIfInBounds_toArray, List.set_cons_zero, List.set_cons_succ]
                      refine E_load1 false 14 (some 25) 24 _ ⟨b6, 0, none⟩ (.int .i8 op) rfl (by kernel_rfl) (by rfl) (fun _ _ _ h => h) (by rfl) (fun w hS => run_loadVar_one _ _ _ _ Try.underlying24 rfl (hS.1.2.1.cell 0)) (.both HT.out trivial) ?_
                      simp only [Act.put, List.setIfInBounds_toArray, List.set_cons_zero, List.set_cons_succ]
                      refine E_any false 15 (some 26) _ (.bool false) rfl (by kernel_rfl) (by rfl) (fun _ _ _ h => h) (fun o e w _ => by unfold execOp; simp only [e]; go_simp) (.both HT.out trivial) ?_
                      simp only [Act.put, List.setIfInBounds_toArray, List.set_cons_zero, List.set_cons_succ]
                      refine E_pick 16 (some 27) _ _ _ false (.bool false) rfl (by kernel_rfl) (by rfl) (fun _ _ _ h => h) (by rfl) (by rfl) (.both HT.out trivial) ?_
                      simp only [Act.put, List.setIfInBounds_toArray, List.set_cons_zero, List.set_cons_succ]
                      refine E_pick 17 (some 28) _ _ _ true (.bool false) rfl (by kernel_rfl) (by rfl) (fun _ _ _ h => h) (by rfl) (by rfl) (.both HT.out trivial) ?_
                      simp only [Act.put, List.setIfInBounds_toArray, List.set_cons_zero, List.set_cons_succ]
                      refine E_move 18 (some 29) _ (.bool false) rfl (by kernel_rfl) (by rfl) (fun _ _ _ h => h) (by rfl) (.both HT.out trivial) ?_
                      simp only [Act.put, List.setIfInBounds_toArray, List.set_cons_zero, List.set_cons_succ]
                      refine E_load1 false 19 (some 30) 4 _ ⟨b24, 0, none⟩ (.bool false) rfl (by kernel_rfl) (by rfl) (fun _ _ _ h => h) (by rfl) (fun w hS => run_loadVar_one _ _ _ _ Try.underlying4 rfl (hS.1.2.2.1.cell 0)) (.both HT.out trivial) ?_
                      simp only [Act.put, List.setIfInBounds_toArray, List.set_cons_zero, List.set_cons_succ]
                      refine E_move 20 (some 31) _ (.bool false) rfl (by kernel_rfl) (by rfl) (fun _ _ _ h => h) (by rfl) (.both HT.out trivial) ?_
                      simp only [Act.put, List.setIfInBounds_toArray, List.set_cons_zero, List.set_cons_succ]
                      refine E_not 21 (some 32) _ rfl (by kernel_rfl) (by rfl) (fun _ _ _ h => h) (.both HT.out trivial) ?_
                      simp only [Act.put, List.setIfInBounds_toArray, List.set_cons_zero, List.set_cons_succ]
                      refine E_not 22 (some 33) _ rfl (by kernel_rfl) (by rfl) (fun _ _ _ h => h) (.both HT.out trivial) ?_
                      simp only [Act.put, List.setIfInBounds_toArray, List.set_cons_zero, List.set_cons_succ]
                      refine E_not 23 (some 34) _ rfl (by kernel_rfl) (by rfl) (fun _ _ _ h => h) (.both HT.out trivial) ?_
                      simp only [Act.put, List.setIfInBounds_toArray, List.set_cons_zero, List.set_cons_succ]
                      refine E_not 24 (some 35) _ rfl (by kernel_rfl) (by rfl) (fun _ _ _ h => h) (.both HT.out trivial) ?_
                      simp only [Act.put, List.setIfInBounds_toArray, List.set_cons_zero, List.set_cons_succ]
                      refine E_not 25 (some 36) _ rfl (by kernel_rfl) (by rfl) (fun _ _ _ h => h) (.both HT.out trivial) ?_
                      simp only [Act.put, List.setIfInBounds_toArray, List.set_cons_zero, List.set_cons_succ]
                      refine E_not 26 (some 37) _ rfl (by kernel_rfl) (by rfl) (fun _ _ _ h => h) (.both HT.out trivial) ?_
                      simp only [Act.put, List.setIfInBounds_toArray, List.set_cons_zero, List.set_cons_succ]
                      refine E_pick 27 (some 38) _ _ _ false (.bool false) rfl (by kernel_rfl) (by rfl) (fun _ _ _ h => h) (by rfl) (by rfl) (.both HT.out trivial) ?_
                      simp only [Act.put, List.setIfInBounds_toArray, List.set_cons_zero, List.set_cons_succ]
                      refine E_pick 28 (some 39) _ _ _ false (.bool false) rfl (by kernel_rfl) (by rfl) (fun _ _ _ h => h) (by rfl) (by rfl) (.both HT.out trivial) ?_
                      simp only [Act.put, List.setIfInBounds_toArray, List.set_cons_zero, List.set_cons_succ]
                      refine E_move 29 (some 40) _ (.bool false) rfl (by kernel_rfl) (by rfl) (fun _ _ _ h => h) (by rfl) (.both HT.out trivial) ?_
                      simp only [Act.put, List.setIfInBounds_toArray, List.set_cons_zero, List.set_cons_succ]
                      refine E_load1 false 30 (some 41) 24 _ ⟨b6, 0, none⟩ (.int .i8 op) rfl (by kernel_rfl) (by rfl) (fun _ _ _ h => h) (by rfl) (fun w hS => run_loadVar_one _ _ _ _ Try.underlying24 rfl (hS.1.2.1.cell 0)) (.both HT.out trivial) ?_
                      simp only [Act.put, List.setIfInBounds_toArray, List.set_cons_zero, List.set_cons_succ]
                      refine E_any false 31 (some 42) _ (.bool false) rfl (by kernel_rfl) (by rfl) (fun _ _ _ h => h) (fun o e w _ => by unfold execOp; simp only [e]; go_simp) (.both HT.out trivial) ?_
                      simp only [Act.put, List.setIfInBounds_toArray, List.set_cons_zero, List.set_cons_succ]
                      refine E_move 32 (some 43) _ (.bool false) rfl (by kernel_rfl) (by rfl) (fun _ _ _ h => h) (by rfl) (.both HT.out trivial) ?_
                      simp only [Act.put, List.setIfInBounds_toArray, List.set_cons_zero, List.set_cons_succ]
                      refine E_not 33 (some 44) _ rfl (by kernel_rfl) (by rfl) (fun _ _ _ h => h) (.both HT.out trivial) ?_
                      simp only [Act.put, List.setIfInBounds_toArray, List.set_cons_zero, List.set_cons_succ]
                      refine E_not 34 (some 45) _ rfl (by kernel_rfl) (by rfl) (fun _ _ _ h => h) (.both HT.out trivial) ?_
                      simp only [Act.put, List.setIfInBounds_toArray, List.set_cons_zero, List.set_cons_succ]
                      refine E_pick 35 (some 46) _ _ _ false (.bool false) rfl (by kernel_rfl) (by rfl) (fun _ _ _ h => h) (by rfl) (by rfl) (.both HT.out trivial) ?_
                      simp only [Act.put, List.setIfInBounds_toArray, List.set_cons_zero, List.set_cons_succ]
                      refine E_pick 36 (some 47) _ _ _ false (.bool false) rfl (by kernel_rfl) (by rfl) (fun _ _ _ h => h) (by rfl) (by rfl) (.both HT.out trivial) ?_
                      simp only [Act.put, List.setIfInBounds_toArray, List.set_cons_zero, List.set_cons_succ]
                      refine E_move 37 (some 48) _ (.bool false) rfl (by kernel_rfl) (by rfl) (fun _ _ _ h => h) (by rfl) (.both HT.out trivial) ?_
                      simp only [Act.put, List.setIfInBounds_toArray, List.set_cons_zero, List.set_cons_succ]
                      refine E_load1 false 38 (some 49) 24 _ ⟨b6, 0, none⟩ (.int .i8 op) rfl (by kernel_rfl) (by rfl) (fun _ _ _ h => h) (by rfl) (fun w hS => run_loadVar_one _ _ _ _ Try.underlying24 rfl (hS.1.2.1.cell 0)) (.both HT.out trivial) ?_
                      simp only [Act.put, List.setIfInBounds_toArray, List.set_cons_zero, List.set_cons_succ]
                      refine E_any false 39 (some 50) _ (.bool true) rfl (by kernel_rfl) (by rfl) (fun _ _ _ h => h) (fun o e w _ => by unfold execOp; simp only [e]; go_simp) (.both HT.out trivial) ?_
                      simp only [Act.put, List.setIfInBounds_toArray, List.set_cons_zero, List.set_cons_succ]
                      refine E_move 40 (some 51) _ (.bool true) rfl (by kernel_rfl) (by rfl) (fun _ _ _ h => h) (by rfl) (.both HT.out trivial) ?_
                      simp only [Act.put, List.setIfInBounds_toArray, List.set_cons_zero, List.set_cons_succ]
                      refine E_load1 false 41 (some 52) 46 _ ⟨b19, 0, none⟩ (.int .u64 d) rfl (by kernel_rfl) (by rfl) (fun _ _ _ h => h) (by rfl) (fun w hS => run_loadVar_one _ _ _ _ Try.underlying46 rfl (hS.1.1.cell 0)) (.both HT.out trivial) ?_
                      simp only [Act.put, List.setIfInBounds_toArray, List.set_cons_zero, List.set_cons_succ]
                      refine E_load1 false 42 (some 53) 24 _ ⟨b7, 0, none⟩ (.int .i8 x) rfl (by kernel_rfl) (by rfl) (fun _ _ _ h => h) (by rfl) (fun w hS => run_loadVar_one _ _ _ _ Try.underlying24 rfl (hS.1.2.2.2.cell 0)) (.both HT.out trivial) ?_
                      simp only [Act.put, List.setIfInBounds_toArray, List.set_cons_zero, List.set_cons_succ]
                      refine E_one 43 (by kernel_rfl) (StepE.of 43 (some 54) _ rfl (by rfl) fun o K h2 h3 hKK => ?_)
                      unfold Oper.wp execOp
                      simp only [h3]
                      go_simp
                      refine (HCM.out _).mono ?_
                      rintro e w' ⟨rfl, rfl⟩
                      dsimp only
                      refine hKK _ _ (.both HT.out trivial) ?_
                      clear hKK h2 h3 K o
                      try simp only [Act.put, List.setIfInBounds_toArray, List.set_cons_zero, List.set_cons_succ]
                      refine E_any false 44 (some 55) _ (.bool true) rfl (by kernel_rfl) (by rfl) (fun _ _ _ h => h) (fun o e w _ => by unfold execOp; simp only [e]; go_simp) (.both HT.out trivial) ?_
                      simp only [Act.put, List.setIfInBounds_toArray, List.set_cons_zero, List.set_cons_succ]
                      refine E_pick 45 (some 56) _ _ _ true (.bool true) rfl (by kernel_rfl) (by rfl) (fun _ _ _ h => h) (by rfl) (by rfl) (.both HT.out trivial) ?_
                      simp only [Act.put, List.setIfInBounds_toArray, List.set_cons_zero, List.set_cons_succ]
                      refine E_pick 46 (some 57) _ _ _ false (.bool true) rfl (by kernel_rfl) (by rfl) (fun _ _ _ h => h) (by rfl) (by rfl) (.both HT.out trivial) ?_
                      simp only [Act.put, List.setIfInBounds_toArray, List.set_cons_zero, List.set_cons_succ]
                      refine E_one 47 (by kernel_rfl) (StepE.assign 47 (some 10) _ (.bool true) rfl (by rfl) (by rfl) (.both HT.out trivial) ?_)
                      simp only [Act.put, List.setIfInBounds_toArray, List.set_cons_zero, List.set_cons_succ]
                      refine wpAnyE_done (by kernel_rfl) ?_ _
                      go_wp2
                      go_meet
                      case rel => exact ⟨by rw [← HS.out, show sameB op x d = true by unfold sameB; rw [HSH.out, HM.out]; simp [hd, h0, h4, h10, h9, h2, h5, hc]], HPd.out, HL.out⟩
                · skip
                  have h5 : (op == 5) = false := by simp at h2; subst h2; rfl
                  go_wp2_with fail
                  go_quiet ((go_at_call 47; refine Calls.quiet_of_same (HCM.out _)))
                  go_wp2
                  go_meet
                  case rel => exact ⟨by rw [← HS.out, show sameB op x d = false by unfold sameB; rw [HSH.out, HM.out]; simp [hd, h0, h4, h10, h9, h2, h5, hd1]], HP0.out.step (below_drewN (Below.refl _ _) nq), HL0.out.trans ((below_drewN (Below.refl _ _) nq).mono HL0.out.size)⟩
              · skip
                have h2 : (op == 2) = false := by have q := HSH.out; unfold shiftsB at q; cases e : (op == 2) with
                  | false => rfl
                  | true => simp at e; subst e; simp at q
                have h5 : (op == 5) = false := by have q := HSH.out; unfold shiftsB at q; cases e : (op == 5) with
                  | false => rfl
                  | true => simp at e; subst e; simp at q
                cases hz : (bits .and .u64 d (x - 1) == 0)
                · skip
                  go_wp2_with fail
                  go_quiet ((go_at_call 47; refine Calls.quiet_of_same (HCM.out _)))
                  go_wp2
                  go_meet
                  case rel => exact ⟨by rw [← HS.out, show sameB op x d = false by unfold sameB; rw [HSH.out, HM.out]; simp [hd, h0, h4, h10, h9, hz, h2, h5]], HP0.out.step (below_drewN (Below.refl _ _) nq), HL0.out.trans ((below_drewN (Below.refl _ _) nq).mono HL0.out.size)⟩
                · skip
                  go_wp2_with fail
                  go_quiet ((go_at_call 47; refine Calls.quiet_of_same (HCM.out _)))
                  go_wp2
                  go_meet
                  case rel => exact ⟨by rw [← HS.out, show sameB op x d = true by unfold sameB; rw [HSH.out, HM.out]; simp [hd, h0, h4, h10, h9, hz]], HP0.out.step (below_drewN (Below.refl _ _) nq), HL0.out.trans ((below_drewN (Below.refl _ _) nq).mono HL0.out.size)⟩
            · skip
              go_wp2_with fail
              go_quiet ((go_at_call 47; refine Calls.quiet_of_same (HCM.out _)))
              go_wp2
              go_meet
              case rel => exact ⟨by rw [← HS.out, show sameB op x d = true by unfold sameB; rw [HSH.out, HM.out]; simp [hd, h0, h4, h10, h9]], HP0.out.step (below_drewN (Below.refl _ _) nq), HL0.out.trans ((below_drewN (Below.refl _ _) nq).mono HL0.out.size)⟩
          · skip
            go_wp2_with fail
            go_quiet ((go_at_call 47; refine Calls.quiet_of_same (HCM.out _)))
            go_wp2
            go_meet
            case rel => exact ⟨by rw [← HS.out, show sameB op x d = true by unfold sameB; rw [HSH.out, HM.out]; simp [hd, h0, h4, h10]], HP0.out.step (below_drewN (Below.refl _ _) nq), HL0.out.trans ((below_drewN (Below.refl _ _) nq).mono HL0.out.size)⟩
        · skip
          go_wp2_with fail
          go_quiet ((go_at_call 47; refine Calls.quiet_of_same (HCM.out _)))
          go_wp2
          go_meet
          case rel => exact ⟨by rw [← HS.out, show sameB op x d = true by unfold sameB; rw [HSH.out, HM.out]; simp [hd, h0, h4]], HP0.out.step (below_drewN (Below.refl _ _) nq), HL0.out.trans ((below_drewN (Below.refl _ _) nq).mono HL0.out.size)⟩
      · skip
        go_wp2_with fail
        go_quiet ((go_at_call 47; refine Calls.quiet_of_same (HCM.out _)))
        go_wp2
        go_meet
        case rel => exact ⟨by rw [← HS.out, show sameB op x d = true by unfold sameB; rw [HSH.out, HM.out]; simp [hd, h0]], HP0.out.step (below_drewN (Below.refl _ _) nq), HL0.out.trans ((below_drewN (Below.refl _ _) nq).mono HL0.out.size)⟩
  case rest =>
    obtain ⟨rfl, hpg, hl⟩ := hcut
    have HP0 := hide hpg
    have HL0 := hide hl
    clear hpg hl
    cases rt
    · skip
      cases S
      · skip
        have c20 := (HP0.out.blk HE.out.e20.1 HE.out.e20.2).1.cell 0
        have c22 := (HP0.out.blk HE.out.e22.1 HE.out.e22.2).1.cell 0
        have c8 := (HP0.out.blk HE.out.e8.1 HE.out.e8.2).1.cell 0
        simp at c20 c22 c8
        go_wp2_with fail
        refine (as_any _ _ _ _).mono ?_
        rintro e w8 ⟨rfl, rfl⟩
        have hb8 : Below wc.heap.size wc (wc.alloc (.cells #[.int .i64 a] 3)) := (Below.refl _ _).alloc (Nat.le_refl _) _
        have HBX := hide (Blk.new wc 3 #[.int .i64 a])
        have HPd := hide (HP0.out.step hb8)
        have HL := hide (HL0.out.trans (hb8.mono HL0.out.size))
        clear hb8 c20 c22 c8 HP0 HL0
        obtain ⟨bx, hbx⟩ : ∃ b, wc.heap.size = b := ⟨_, rfl⟩
        rw [hbx] at HBX ⊢
        clear hbx
        generalize wc.alloc (.cells #[.int .i64 a] 3) = w8 at HPd HL HBX ⊢
        go_wp2_with fail
        refine (then_no _ _).mono ?_
        rintro e w9 ⟨rfl, rfl⟩
        go_wp2
        exact bodyPost_ret (v := .tuple #[.int .i64 0, .bool false, .int .i64 0]) (by simp [results, Try.results76, go_sem]) rfl (.inl ⟨rfl, rfl, HL.out⟩)
      · skip
        have c20 := (HP0.out.blk HE.out.e20.1 HE.out.e20.2).1.cell 0
        have c22 := (HP0.out.blk HE.out.e22.1 HE.out.e22.2).1.cell 0
        have c8 := (HP0.out.blk HE.out.e8.1 HE.out.e8.2).1.cell 0
        simp at c20 c22 c8
        go_wp2_with fail
        refine (as_any _ _ _ _).mono ?_
        rintro e w8 ⟨rfl, rfl⟩
        have hb8 : Below wc.heap.size wc (wc.alloc (.cells #[.int .i64 a] 3)) := (Below.refl _ _).alloc (Nat.le_refl _) _
        have HBX := hide (Blk.new wc 3 #[.int .i64 a])
        have HPd := hide (HP0.out.step hb8)
        have HL := hide (HL0.out.trans (hb8.mono HL0.out.size))
        clear hb8 c20 c22 c8 HP0 HL0
        obtain ⟨bx, hbx⟩ : ∃ b, wc.heap.size = b := ⟨_, rfl⟩
        rw [hbx] at HBX ⊢
        clear hbx
        generalize wc.alloc (.cells #[.int .i64 a] 3) = w8 at HPd HL HBX ⊢
        go_wp2_with fail
        refine (then_no _ _).mono ?_
        rintro e w9 ⟨rfl, rfl⟩
        go_wp2
        exact bodyPost_ret (v := .tuple #[.int .i64 0, .bool false, .int .i64 0]) (by simp [results, Try.results76, go_sem]) rfl (.inl ⟨rfl, rfl, HL.out⟩)
    · skip
      cases S
      · skip
        have c20 := (HP0.out.blk HE.out.e20.1 HE.out.e20.2).1.cell 0
        have c22 := (HP0.out.blk HE.out.e22.1 HE.out.e22.2).1.cell 0
        have c8 := (HP0.out.blk HE.out.e8.1 HE.out.e8.2).1.cell 0
        simp at c20 c22 c8
        go_wp2_with fail
        refine (as_any _ _ _ _).mono ?_
        rintro e w8 ⟨rfl, rfl⟩
        have hb8 : Below wc.heap.size wc (wc.alloc (.cells #[.int .i64 a] 3)) := (Below.refl _ _).alloc (Nat.le_refl _) _
        have HBX := hide (Blk.new wc 3 #[.int .i64 a])
        have HPd := hide (HP0.out.step hb8)
        have HL := hide (HL0.out.trans (hb8.mono HL0.out.size))
        clear hb8 c20 c22 c8 HP0 HL0
        obtain ⟨bx, hbx⟩ : ∃ b, wc.heap.size = b := ⟨_, rfl⟩
        rw [hbx] at HBX ⊢
        clear hbx
        generalize wc.alloc (.cells #[.int .i64 a] 3) = w8 at HPd HL HBX ⊢
        go_wp2_with fail
        refine (then_no _ _).mono ?_
        rintro e w9 ⟨rfl, rfl⟩
        go_wp2
        exact bodyPost_ret (v := .tuple #[.int .i64 0, .bool false, .int .i64 0]) (by simp [results, Try.results76, go_sem]) rfl (.inl ⟨rfl, rfl, HL.out⟩)
      · skip
        have HR := hide (HRI.out rfl)
        have c20 := (HP0.out.blk HE.out.e20.1 HE.out.e20.2).1.cell 0
        have c22 := (HP0.out.blk HE.out.e22.1 HE.out.e22.2).1.cell 0
        have c8 := (HP0.out.blk HE.out.e8.1 HE.out.e8.2).1.cell 0
        simp at c20 c22 c8
        go_wp2_with fail
        refine (as_any _ _ _ _).mono ?_
        rintro e w8 ⟨rfl, rfl⟩
        have hb8 : Below wc.heap.size wc (wc.alloc (.cells #[.int .i64 a] 3)) := (Below.refl _ _).alloc (Nat.le_refl _) _
        have HBX := hide (Blk.new wc 3 #[.int .i64 a])
        have HPd := hide (HP0.out.step hb8)
        have HL := hide (HL0.out.trans (hb8.mono HL0.out.size))
        clear hb8 c20 c22 c8 HP0 HL0
        obtain ⟨bx, hbx⟩ : ∃ b, wc.heap.size = b := ⟨_, rfl⟩
        rw [hbx] at HBX ⊢
        clear hbx
        generalize wc.alloc (.cells #[.int .i64 a] 3) = w8 at HPd HL HBX ⊢
        go_wp2_with fail
        have H := hide (as1_any (F := F) x _ HX.out HN.out f r HR.out b15 b7 bx w8 HPd.out.pool (Nat.le_trans HB.out HPd.out.size) (HPd.out.blk HE.out.e15.1 HE.out.e15.2).1 (HPd.out.blk HE.out.e7.1 HE.out.e7.2).1 HBX.out)
        refine (then_yes 61 _ _ (RR base g F W r) enters2_1 (H.out.mono fun e w' q => RR.of (RetP.from HPd.out q))).mono ?_
        rintro e w9 ⟨n, m, rfl, hrr⟩
        have HRR := hide hrr
        clear hrr
        go_wp2
        exact bodyPost_ret (v := .tuple #[.int .i64 n, .bool true, .int .i64 m]) (by simp [results, Try.results76, go_sem]) rfl (.inr ⟨rfl, n, m, rfl, HRR.out⟩)
end
end Go.Proofs.Ytepagfkkjlbipaa
