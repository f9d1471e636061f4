/-
  Contracts of norm's like, of Ite's laws 2, 3, 4 and of the put at its end. Conditions: those written in each statement.
-/
import Derived.Test.YtfjflefgclfbfaaGreatNs
import Derived.Test.YtfjflefgclfbfaaGreatKa
namespace Go.Proofs.YtfjflefgclfbfaaGreat
open Go.RowKit
set_option linter.unusedVariables false
set_option linter.unusedSimpArgs false
set_option maxRecDepth 100000
def isP (T : List TD) (n v : Int) : Bool := (atP T n).kind == 0 && (atP T n).n == v
def likeP (T : List TD) (n u x : Int) : Bool := n == u || ((atP T n).kind == 3 && ((atP T n).w == x && (atP T n).a == u))
section
variable {base g : Nat} {F : Nat → Prop} {p : PS}
set_option maxHeartbeats 2000000 in
theorem like_any (k u x : Int) (w : World) (h : PoolAt w base F g p) : Calls Tryz.prog 98 #[.agg #[.pointer (some ⟨g, 0, none⟩)], .int .i64 k, .int .i64 u, .int .i8 x] w fun e w' => e = .returned (.bool (likeP p.T k u x)) ∧ Below w.heap.size w w' := by
  obtain ⟨t, ht⟩ : ∃ t, atP p.T k = t := ⟨_, rfl⟩
  obtain ⟨r, hr⟩ : ∃ r, likeP p.T k u x = r := ⟨_, rfl⟩
  rw [hr]
  unfold likeP at hr
  rw [ht] at hr
  have HR := hide hr
  have HT := hide ht
  have hb0 : Below w.heap.size w (w.alloc (.cells #[.pointer (some ⟨g, 0, none⟩)] 63)) := (Below.refl _ w).alloc (Nat.le_refl _) _
  have HP := hide (h.below hb0)
  have HB := hide hb0
  clear h hb0 ht hr
  go_enter Tryz.func98, Tryz.ntmps98
  go_wp2_with fail
  refine (at_any k _ HP.out).mono ?_
  rintro e w1 ⟨rfl, hb⟩
  have HB1 := hide (HB.out.trans (hb.mono HB.out.size))
  clear hb HP HB
  rw [HT.out]
  go_upto_region 2 with (first
    | (refine wpList_store_new rfl 67 (.tmp 9) (.tmp 12) rfl _ t.cells (termV t) (by rfl) (by rfl) rfl sizT rfl (TD.one _) ?_
       intro w5 G5 L5 Z5
       have HX := hide G5
       have HB2 := hide (HB1.out.trans (L5.mono HB1.out.size))
       clear G5 L5 Z5)
    | fail)
  have b0 := HX.out.cell 0
  have b2 := HX.out.cell 2
  have b4 := HX.out.cell 4
  simp [TD.cells] at b0 b2 b4
  cases h1 : (k == u)
  · cases h2 : (t.kind == 3)
    · go_wp2
      go_ret
      exact ⟨ret_b6 (by rw [← HR.out, h1, h2]; rfl), HB2.out⟩
    · cases h3 : (t.w == x)
      · go_wp2
        go_ret
        exact ⟨ret_b6 (by rw [← HR.out, h1, h2, h3]; rfl), HB2.out⟩
      · go_wp2
        go_ret
        exact ⟨ret_b6 (by rw [← HR.out, h1, h2, h3]; simp), HB2.out⟩
  · go_wp2
    go_ret
    exact ⟨ret_b6 (by rw [← HR.out, h1]; rfl), HB2.out⟩
end
/-- What Ite's laws have before them. -/
structure IteE (g : Nat) (a b c way : Int) (s : TD) (b4 b5 b6 b7 b11 b12 b13 b14 : Nat) (F : Nat → Prop) (W : World) : Prop where
  e4 : Own1 W F b4 26 (.pointer (some ⟨g, 0, none⟩))
  e5 : Own1 W F b5 3 (.int .i64 a)
  e6 : Own1 W F b6 3 (.int .i64 b)
  e7 : Own1 W F b7 3 (.int .i64 c)
  e11 : Own1 W F b11 63 (.pointer (some ⟨g, 0, none⟩))
  e12 : Blk W b12 67 s.cells.toArray ∧ ¬ F b12
  e13 : Own1 W F b13 3 (.int .i64 way)
  e14 : Own1 W F b14 85 (.func (.func 64) #[] #[])
section
variable {base g : Nat} {a b c way : Int} {s : TD} {b4 b5 b6 b7 b11 b12 b13 b14 : Nat} {F F1 : Nat → Prop} {W W1 : World} {p : PS}
theorem IteE.pg (h : IteE g a b c way s b4 b5 b6 b7 b11 b12 b13 b14 F W) (k : PG base g F W F1 p W1) : IteE g a b c way s b4 b5 b6 b7 b11 b12 b13 b14 F1 W1 := ⟨h.e4.pg k, h.e5.pg k, h.e6.pg k, h.e7.pg k, h.e11.pg k, k.blk h.e12.1 h.e12.2, h.e13.pg k, h.e14.pg k⟩
theorem IteE.below (h : IteE g a b c way s b4 b5 b6 b7 b11 b12 b13 b14 F W) (k : Below W.heap.size W W1) : IteE g a b c way s b4 b5 b6 b7 b11 b12 b13 b14 F W1 := ⟨h.e4.below k, h.e5.below k, h.e6.below k, h.e7.below k, h.e11.below k, ⟨h.e12.1.below k h.e12.1.lt, h.e12.2⟩, h.e13.below k, h.e14.below k⟩
end
theorem entersI1_1 : EntersB 65 := enters_of Tryz.func65 (by kernel_rfl) rfl
theorem entersI4_1 : EntersB 69 := enters_of Tryz.func69 (by kernel_rfl) rfl
/-- same(n): a function that hands a number on. -/
theorem same_any (n : Int) (w : World) : Calls Tryz.prog 64 #[.int .i64 n] w fun e w' => e = .returned (.func (.func 65) #[] #[.pointer (some ⟨w.heap.size, 0, none⟩)]) ∧ w' = w.alloc (.cells #[.int .i64 n] 3) := by
  go_enter Tryz.func64, Tryz.ntmps64
  go_wp2
  go_ret
  exact ⟨rfl, rfl⟩
theorem same1_any (n : Int) (bn : Nat) (w : World) (h : Blk w bn 3 #[.int .i64 n]) : Calls Tryz.prog 65 #[.pointer (some ⟨bn, 0, none⟩)] w fun e w' => e = .returned (.tuple #[.int .i64 n, .int .i64 0]) ∧ w = w' := by
  have c := h.cell 0
  simp at c
  clear h
  go_enter Tryz.func65, Tryz.ntmps65
  go_wp2
  go_ret2
  exact ⟨rfl, rfl⟩
section
variable {base f g : Nat} {a b c way : Int} {s : TD} {b4 b5 b6 b7 b11 b12 b13 b14 : Nat} {F : Nat → Prop} {W : World} {p : PS} {r : RS}
set_option maxHeartbeats 4000000 in
theorem ite2_no (hE : IteE g a b c way s b4 b5 b6 b7 b11 b12 b13 b14 F W) (hp : PoolAt W base F g p) (hf : (s.kind == 0) = false) : Calls Tryz.prog 66 #[.pointer (some ⟨b12, 0, none⟩), .pointer (some ⟨b14, 0, none⟩), .pointer (some ⟨b13, 0, none⟩)] W (fun e w' => e = .returned (.tuple #[.int .i64 0, .bool false, .int .i64 0]) ∧ Below W.heap.size W w') := by
  have HE := hide hE
  have HP0 := hide (PG.refl hp)
  have HL0 := hide (Below.refl W.heap.size W)
  clear hE hp
  go_enter Tryz.func66, Tryz.ntmps66
  go_upto_region 1 with fail
  refine wp_region_E (fun w' => Blk w' b12 67 s.cells.toArray ∧ Blk w' b14 85 #[.func (.func 64) #[] #[]] ∧ Blk w' b13 3 #[.int .i64 way]) (fun _ => True) [] (by kernel_rfl) ?_
  have HPd := hide (HP0.out.step ((Below.refl _ _).drew))
  have HL := hide (HL0.out.trans (((Below.refl _ _).drew).mono HL0.out.size))
  have HT := hide (⟨(HPd.out.blk HE.out.e12.1 HE.out.e12.2).1, (HPd.out.blk HE.out.e14.1 HE.out.e14.2).1, (HPd.out.blk HE.out.e13.1 HE.out.e13.2).1⟩ : Blk W.drew b12 67 s.cells.toArray ∧ Blk W.drew b14 85 #[.func (.func 64) #[] #[]] ∧ Blk W.drew b13 3 #[.int .i64 way])
  clear HP0 HL0
  generalize W.drew = Wd at HT HPd HL ⊢
  refine E_any false 0 (some 6) _ (.pointer (some ⟨b12, 0, none⟩)) rfl (by kernel_rfl) (by rfl) (fun _ _ _ h => h) (fun o e w _ => by unfold execOp; simp only [e]; go_simp) (.both HT.out trivial) ?_
  simp only [Act.put, List.setIfInBounds_toArray, List.set_cons_zero, List.set_cons_succ]
  refine E_load1 false 1 (some 7) 24 _ ⟨b12, 0, none⟩ (.int .i8 s.kind) rfl (by kernel_rfl) (by rfl) (fun _ _ _ h => h) (by rfl) (fun w hS => run_loadVar_one _ _ _ _ Tryz.underlying24 rfl (hS.1.1.cell 0)) (.both HT.out trivial) ?_
  simp only [Act.put, List.setIfInBounds_toArray, List.set_cons_zero, List.set_cons_succ]
  refine E_any false 2 (some 8) _ (.bool false) rfl (by kernel_rfl) (by rfl) (fun _ _ _ h => h) (fun o e w _ => by unfold execOp; simp only [e]; go_simp) (.both HT.out trivial) ?_
  simp only [Act.put, List.setIfInBounds_toArray, List.set_cons_zero, List.set_cons_succ]
  refine E_load1 false 3 (some 9) 85 _ ⟨b14, 0, none⟩ (.func (.func 64) #[] #[]) rfl (by kernel_rfl) (by rfl) (fun _ _ _ h => h) (by rfl) (fun w hS => run_loadVar_one _ _ _ _ Tryz.underlying85 rfl (hS.1.2.1.cell 0)) (.both HT.out trivial) ?_
  simp only [Act.put, List.setIfInBounds_toArray, List.set_cons_zero, List.set_cons_succ]
  refine E_load1 false 4 (some 10) 3 _ ⟨b13, 0, none⟩ (.int .i64 way) rfl (by kernel_rfl) (by rfl) (fun _ _ _ h => h) (by rfl) (fun w hS => run_loadVar_one _ _ _ _ Tryz.underlying3 rfl (hS.1.2.2.cell 0)) (.both HT.out trivial) ?_
  simp only [Act.put, List.setIfInBounds_toArray, List.set_cons_zero, List.set_cons_succ]
  refine E_one 5 (by kernel_rfl) (StepE.of 5 (some 11) _ rfl (by rfl) fun o K h2 h3 hKK => ?_)
  unfold Oper.wp execOp
  simp only [h3]
  go_simp
  refine (same_any _ _).mono ?_
  rintro e w8 ⟨rfl, rfl⟩
  have hb8 := bl_alloc Wd (.cells #[.int .i64 way] 3)
  have HBX := hide (Blk.new Wd 3 #[.int .i64 way])
  replace HPd := hide (HPd.out.step hb8)
  replace HT := hide (⟨(HPd.out.blk HE.out.e12.1 HE.out.e12.2).1, (HPd.out.blk HE.out.e14.1 HE.out.e14.2).1, (HPd.out.blk HE.out.e13.1 HE.out.e13.2).1⟩ : Blk (Wd.alloc (.cells #[.int .i64 way] 3)) b12 67 s.cells.toArray ∧ Blk (Wd.alloc (.cells #[.int .i64 way] 3)) b14 85 #[.func (.func 64) #[] #[]] ∧ Blk (Wd.alloc (.cells #[.int .i64 way] 3)) b13 3 #[.int .i64 way])
  replace HL := hide (HL.out.trans (hb8.mono HL.out.size))
  clear hb8
  obtain ⟨bx, hbx⟩ : ∃ b, Wd.heap.size = b := ⟨_, rfl⟩
  rw [hbx] at HBX ⊢
  clear hbx
  generalize Wd.alloc (.cells #[.int .i64 way] 3) = w8 at HT HPd HL HBX ⊢
  dsimp only
  refine hKK _ _ (.both HT.out trivial) ?_
  clear hKK h2 h3 K o
  try simp only [Act.put, List.setIfInBounds_toArray, List.set_cons_zero, List.set_cons_succ]
  refine E_one 6 (by kernel_rfl) (StepE.of 6 (some 12) _ rfl (by rfl) fun o K h2 h3 hKK => ?_)
  unfold Oper.wp execOp
  simp only [h3]
  go_simp
  refine (then_no _ _).mono ?_
  rintro e w9 ⟨rfl, rfl⟩
  dsimp only
  refine hKK _ _ (.both HT.out trivial) ?_
  clear hKK h2 h3 K o
  try simp only [Act.put, List.setIfInBounds_toArray, List.set_cons_zero, List.set_cons_succ]
  refine E_any false 7 (some 13) _ (.int .i64 0) rfl (by kernel_rfl) (by rfl) (fun _ _ _ h => h) (fun o e w _ => by unfold execOp; simp only [e]; go_simp) (.both HT.out trivial) ?_
  simp only [Act.put, List.setIfInBounds_toArray, List.set_cons_zero, List.set_cons_succ]
  refine E_any false 8 (some 14) _ (.bool false) rfl (by kernel_rfl) (by rfl) (fun _ _ _ h => h) (fun o e w _ => by unfold execOp; simp only [e]; go_simp) (.both HT.out trivial) ?_
  simp only [Act.put, List.setIfInBounds_toArray, List.set_cons_zero, List.set_cons_succ]
  refine E_any false 9 (some 15) _ (.int .i64 0) rfl (by kernel_rfl) (by rfl) (fun _ _ _ h => h) (fun o e w _ => by unfold execOp; simp only [e]; go_simp) (.both HT.out trivial) ?_
  simp only [Act.put, List.setIfInBounds_toArray, List.set_cons_zero, List.set_cons_succ]
  refine E_one 10 (by kernel_rfl) (StepE.assign 10 (some 3) _ (.int .i64 0) rfl (by rfl) (by rfl) (.both HT.out trivial) ?_)
  simp only [Act.put, List.setIfInBounds_toArray, List.set_cons_zero, List.set_cons_succ]
  refine E_one 11 (by kernel_rfl) (StepE.assign 11 (some 4) _ (.bool false) rfl (by rfl) (by rfl) (.both HT.out trivial) ?_)
  simp only [Act.put, List.setIfInBounds_toArray, List.set_cons_zero, List.set_cons_succ]
  refine E_one 12 (by kernel_rfl) (StepE.assign 12 (some 5) _ (.int .i64 0) rfl (by rfl) (by rfl) (.both HT.out trivial) ?_)
  simp only [Act.put, List.setIfInBounds_toArray, List.set_cons_zero, List.set_cons_succ]
  refine wpAnyE_done (by kernel_rfl) ?_ _
  go_wp2
  exact bodyPost_ret (v := .tuple #[.int .i64 0, .bool false, .int .i64 0]) (by simp [results, Tryz.results66, go_sem]) rfl ⟨rfl, HL.out⟩
set_option maxHeartbeats 4000000 in
theorem ite2_yes (hE : IteE g a b c way s b4 b5 b6 b7 b11 b12 b13 b14 F W) (hp : PoolAt W base F g p) (hf : (s.kind == 0) = true) : Calls Tryz.prog 66 #[.pointer (some ⟨b12, 0, none⟩), .pointer (some ⟨b14, 0, none⟩), .pointer (some ⟨b13, 0, none⟩)] W (fun e w' => ∃ n m, e = .returned (.tuple #[.int .i64 n, .bool true, .int .i64 m]) ∧ RR base g F W (p, way, 0) n m w') := by
  have HE := hide hE
  have HP0 := hide (PG.refl hp)
  have HL0 := hide (Below.refl W.heap.size W)
  clear hE hp
  go_enter Tryz.func66, Tryz.ntmps66
  go_upto_region 1 with fail
  refine wp_region_E (fun w' => Blk w' b12 67 s.cells.toArray ∧ Blk w' b14 85 #[.func (.func 64) #[] #[]] ∧ Blk w' b13 3 #[.int .i64 way]) (fun _ => True) [] (by kernel_rfl) ?_
  have HPd := hide (HP0.out.step ((Below.refl _ _).drew))
  have HL := hide (HL0.out.trans (((Below.refl _ _).drew).mono HL0.out.size))
  have HT := hide (⟨(HPd.out.blk HE.out.e12.1 HE.out.e12.2).1, (HPd.out.blk HE.out.e14.1 HE.out.e14.2).1, (HPd.out.blk HE.out.e13.1 HE.out.e13.2).1⟩ : Blk W.drew b12 67 s.cells.toArray ∧ Blk W.drew b14 85 #[.func (.func 64) #[] #[]] ∧ Blk W.drew b13 3 #[.int .i64 way])
  clear HP0 HL0
  generalize W.drew = Wd at HT HPd HL ⊢
  refine E_any false 0 (some 6) _ (.pointer (some ⟨b12, 0, none⟩)) rfl (by kernel_rfl) (by rfl) (fun _ _ _ h => h) (fun o e w _ => by unfold execOp; simp only [e]; go_simp) (.both HT.out trivial) ?_
  simp only [Act.put, List.setIfInBounds_toArray, List.set_cons_zero, List.set_cons_succ]
  refine E_load1 false 1 (some 7) 24 _ ⟨b12, 0, none⟩ (.int .i8 s.kind) rfl (by kernel_rfl) (by rfl) (fun _ _ _ h => h) (by rfl) (fun w hS => run_loadVar_one _ _ _ _ Tryz.underlying24 rfl (hS.1.1.cell 0)) (.both HT.out trivial) ?_
  simp only [Act.put, List.setIfInBounds_toArray, List.set_cons_zero, List.set_cons_succ]
  refine E_any false 2 (some 8) _ (.bool true) rfl (by kernel_rfl) (by rfl) (fun _ _ _ h => h) (fun o e w _ => by unfold execOp; simp only [e]; go_simp) (.both HT.out trivial) ?_
  simp only [Act.put, List.setIfInBounds_toArray, List.set_cons_zero, List.set_cons_succ]
  refine E_load1 false 3 (some 9) 85 _ ⟨b14, 0, none⟩ (.func (.func 64) #[] #[]) rfl (by kernel_rfl) (by rfl) (fun _ _ _ h => h) (by rfl) (fun w hS => run_loadVar_one _ _ _ _ Tryz.underlying85 rfl (hS.1.2.1.cell 0)) (.both HT.out trivial) ?_
  simp only [Act.put, List.setIfInBounds_toArray, List.set_cons_zero, List.set_cons_succ]
  refine E_load1 false 4 (some 10) 3 _ ⟨b13, 0, none⟩ (.int .i64 way) rfl (by kernel_rfl) (by rfl) (fun _ _ _ h => h) (by rfl) (fun w hS => run_loadVar_one _ _ _ _ Tryz.underlying3 rfl (hS.1.2.2.cell 0)) (.both HT.out trivial) ?_
  simp only [Act.put, List.setIfInBounds_toArray, List.set_cons_zero, List.set_cons_succ]
  refine E_one 5 (by kernel_rfl) (StepE.of 5 (some 11) _ rfl (by rfl) fun o K h2 h3 hKK => ?_)
  unfold Oper.wp execOp
  simp only [h3]
  go_simp
  refine (same_any _ _).mono ?_
  rintro e w8 ⟨rfl, rfl⟩
  have hb8 := bl_alloc Wd (.cells #[.int .i64 way] 3)
  have HBX := hide (Blk.new Wd 3 #[.int .i64 way])
  replace HPd := hide (HPd.out.step hb8)
  replace HT := hide (⟨(HPd.out.blk HE.out.e12.1 HE.out.e12.2).1, (HPd.out.blk HE.out.e14.1 HE.out.e14.2).1, (HPd.out.blk HE.out.e13.1 HE.out.e13.2).1⟩ : Blk (Wd.alloc (.cells #[.int .i64 way] 3)) b12 67 s.cells.toArray ∧ Blk (Wd.alloc (.cells #[.int .i64 way] 3)) b14 85 #[.func (.func 64) #[] #[]] ∧ Blk (Wd.alloc (.cells #[.int .i64 way] 3)) b13 3 #[.int .i64 way])
  replace HL := hide (HL.out.trans (hb8.mono HL.out.size))
  clear hb8
  obtain ⟨bx, hbx⟩ : ∃ b, Wd.heap.size = b := ⟨_, rfl⟩
  rw [hbx] at HBX ⊢
  clear hbx
  generalize Wd.alloc (.cells #[.int .i64 way] 3) = w8 at HT HPd HL HBX ⊢
  dsimp only
  refine hKK _ _ (.both HT.out trivial) ?_
  clear hKK h2 h3 K o
  try simp only [Act.put, List.setIfInBounds_toArray, List.set_cons_zero, List.set_cons_succ]
  refine E_one 6 (by kernel_rfl) (StepE.of 6 (some 12) _ rfl (by rfl) fun o K h2 h3 hKK => ?_)
  unfold Oper.wp execOp
  simp only [h3]
  go_simp
  refine (then_yes 65 _ _ (RR base g F W (p, way, 0)) entersI1_1 ((same1_any _ bx w8 HBX.out).mono fun e w' q => ⟨_, _, q.1, rfl, rfl, F, by rw [← q.2]; exact HPd.out⟩)).mono ?_
  rintro e w9 ⟨n, m, rfl, hrr⟩
  have HRR := hide hrr
  obtain ⟨F9, h9⟩ := hrr.2.2
  clear hrr
  replace HT := hide (⟨(h9.blk HE.out.e12.1 HE.out.e12.2).1, (h9.blk HE.out.e14.1 HE.out.e14.2).1, (h9.blk HE.out.e13.1 HE.out.e13.2).1⟩ : Blk w9 b12 67 s.cells.toArray ∧ Blk w9 b14 85 #[.func (.func 64) #[] #[]] ∧ Blk w9 b13 3 #[.int .i64 way])
  clear h9 HBX HPd HL
  dsimp only
  refine hKK _ _ (.both HT.out trivial) ?_
  clear hKK h2 h3 K o
  try simp only [Act.put, List.setIfInBounds_toArray, List.set_cons_zero, List.set_cons_succ]
  refine E_any false 7 (some 13) _ (.int .i64 n) rfl (by kernel_rfl) (by rfl) (fun _ _ _ h => h) (fun o e w _ => by unfold execOp; simp only [e]; go_simp) (.both HT.out trivial) ?_
  simp only [Act.put, List.setIfInBounds_toArray, List.set_cons_zero, List.set_cons_succ]
  refine E_any false 8 (some 14) _ (.bool true) rfl (by kernel_rfl) (by rfl) (fun _ _ _ h => h) (fun o e w _ => by unfold execOp; simp only [e]; go_simp) (.both HT.out trivial) ?_
  simp only [Act.put, List.setIfInBounds_toArray, List.set_cons_zero, List.set_cons_succ]
  refine E_any false 9 (some 15) _ (.int .i64 m) rfl (by kernel_rfl) (by rfl) (fun _ _ _ h => h) (fun o e w _ => by unfold execOp; simp only [e]; go_simp) (.both HT.out trivial) ?_
  simp only [Act.put, List.setIfInBounds_toArray, List.set_cons_zero, List.set_cons_succ]
  refine E_one 10 (by kernel_rfl) (StepE.assign 10 (some 3) _ (.int .i64 n) rfl (by rfl) (by rfl) (.both HT.out trivial) ?_)
  simp only [Act.put, List.setIfInBounds_toArray, List.set_cons_zero, List.set_cons_succ]
  refine E_one 11 (by kernel_rfl) (StepE.assign 11 (some 4) _ (.bool true) rfl (by rfl) (by rfl) (.both HT.out trivial) ?_)
  simp only [Act.put, List.setIfInBounds_toArray, List.set_cons_zero, List.set_cons_succ]
  refine E_one 12 (by kernel_rfl) (StepE.assign 12 (some 5) _ (.int .i64 m) rfl (by rfl) (by rfl) (.both HT.out trivial) ?_)
  simp only [Act.put, List.setIfInBounds_toArray, List.set_cons_zero, List.set_cons_succ]
  refine wpAnyE_done (by kernel_rfl) ?_ _
  go_wp2
  exact bodyPost_ret (v := .tuple #[.int .i64 n, .bool true, .int .i64 m]) (by simp [results, Tryz.results66, go_sem]) rfl ⟨n, m, rfl, HRR.out⟩
set_option maxHeartbeats 4000000 in
theorem ite3_no (hE : IteE g a b c way s b4 b5 b6 b7 b11 b12 b13 b14 F W) (hp : PoolAt W base F g p) (hf : (b == c) = false) : Calls Tryz.prog 67 #[.pointer (some ⟨b6, 0, none⟩), .pointer (some ⟨b7, 0, none⟩), .pointer (some ⟨b14, 0, none⟩)] W (fun e w' => e = .returned (.tuple #[.int .i64 0, .bool false, .int .i64 0]) ∧ Below W.heap.size W w') := by
  have HE := hide hE
  have HP0 := hide (PG.refl hp)
  have HL0 := hide (Below.refl W.heap.size W)
  clear hE hp
  go_enter Tryz.func67, Tryz.ntmps67
  go_upto_region 1 with fail
  refine wp_region_E (fun w' => Blk w' b6 3 #[.int .i64 b] ∧ Blk w' b7 3 #[.int .i64 c] ∧ Blk w' b14 85 #[.func (.func 64) #[] #[]]) (fun _ => True) [] (by kernel_rfl) ?_
  have HPd := hide (HP0.out.step ((Below.refl _ _).drew))
  have HL := hide (HL0.out.trans (((Below.refl _ _).drew).mono HL0.out.size))
  have HT := hide (⟨(HPd.out.blk HE.out.e6.1 HE.out.e6.2).1, (HPd.out.blk HE.out.e7.1 HE.out.e7.2).1, (HPd.out.blk HE.out.e14.1 HE.out.e14.2).1⟩ : Blk W.drew b6 3 #[.int .i64 b] ∧ Blk W.drew b7 3 #[.int .i64 c] ∧ Blk W.drew b14 85 #[.func (.func 64) #[] #[]])
  clear HP0 HL0
  generalize W.drew = Wd at HT HPd HL ⊢
  refine E_load1 false 0 (some 6) 3 _ ⟨b6, 0, none⟩ (.int .i64 b) rfl (by kernel_rfl) (by rfl) (fun _ _ _ h => h) (by rfl) (fun w hS => run_loadVar_one _ _ _ _ Tryz.underlying3 rfl (hS.1.1.cell 0)) (.both HT.out trivial) ?_
  simp only [Act.put, List.setIfInBounds_toArray, List.set_cons_zero, List.set_cons_succ]
  refine E_load1 false 1 (some 7) 3 _ ⟨b7, 0, none⟩ (.int .i64 c) rfl (by kernel_rfl) (by rfl) (fun _ _ _ h => h) (by rfl) (fun w hS => run_loadVar_one _ _ _ _ Tryz.underlying3 rfl (hS.1.2.1.cell 0)) (.both HT.out trivial) ?_
  simp only [Act.put, List.setIfInBounds_toArray, List.set_cons_zero, List.set_cons_succ]
  refine E_any false 2 (some 8) _ (.bool false) rfl (by kernel_rfl) (by rfl) (fun _ _ _ h => h) (fun o e w _ => by unfold execOp; simp only [e]; go_simp) (.both HT.out trivial) ?_
  simp only [Act.put, List.setIfInBounds_toArray, List.set_cons_zero, List.set_cons_succ]
  refine E_load1 false 3 (some 9) 85 _ ⟨b14, 0, none⟩ (.func (.func 64) #[] #[]) rfl (by kernel_rfl) (by rfl) (fun _ _ _ h => h) (by rfl) (fun w hS => run_loadVar_one _ _ _ _ Tryz.underlying85 rfl (hS.1.2.2.cell 0)) (.both HT.out trivial) ?_
  simp only [Act.put, List.setIfInBounds_toArray, List.set_cons_zero, List.set_cons_succ]
  refine E_load1 false 4 (some 10) 3 _ ⟨b6, 0, none⟩ (.int .i64 b) rfl (by kernel_rfl) (by rfl) (fun _ _ _ h => h) (by rfl) (fun w hS => run_loadVar_one _ _ _ _ Tryz.underlying3 rfl (hS.1.1.cell 0)) (.both HT.out trivial) ?_
  simp only [Act.put, List.setIfInBounds_toArray, List.set_cons_zero, List.set_cons_succ]
  refine E_one 5 (by kernel_rfl) (StepE.of 5 (some 11) _ rfl (by rfl) fun o K h2 h3 hKK => ?_)
  unfold Oper.wp execOp
  simp only [h3]
  go_simp
  refine (same_any _ _).mono ?_
  rintro e w8 ⟨rfl, rfl⟩
  have hb8 := bl_alloc Wd (.cells #[.int .i64 b] 3)
  have HBX := hide (Blk.new Wd 3 #[.int .i64 b])
  replace HPd := hide (HPd.out.step hb8)
  replace HT := hide (⟨(HPd.out.blk HE.out.e6.1 HE.out.e6.2).1, (HPd.out.blk HE.out.e7.1 HE.out.e7.2).1, (HPd.out.blk HE.out.e14.1 HE.out.e14.2).1⟩ : Blk (Wd.alloc (.cells #[.int .i64 b] 3)) b6 3 #[.int .i64 b] ∧ Blk (Wd.alloc (.cells #[.int .i64 b] 3)) b7 3 #[.int .i64 c] ∧ Blk (Wd.alloc (.cells #[.int .i64 b] 3)) b14 85 #[.func (.func 64) #[] #[]])
  replace HL := hide (HL.out.trans (hb8.mono HL.out.size))
  clear hb8
  obtain ⟨bx, hbx⟩ : ∃ b, Wd.heap.size = b := ⟨_, rfl⟩
  rw [hbx] at HBX ⊢
  clear hbx
  generalize Wd.alloc (.cells #[.int .i64 b] 3) = w8 at HT HPd HL HBX ⊢
  dsimp only
  refine hKK _ _ (.both HT.out trivial) ?_
  clear hKK h2 h3 K o
  try simp only [Act.put, List.setIfInBounds_toArray, List.set_cons_zero, List.set_cons_succ]
  refine E_one 6 (by kernel_rfl) (StepE.of 6 (some 12) _ rfl (by rfl) fun o K h2 h3 hKK => ?_)
  unfold Oper.wp execOp
  simp only [h3]
  go_simp
  refine (then_no _ _).mono ?_
  rintro e w9 ⟨rfl, rfl⟩
  dsimp only
  refine hKK _ _ (.both HT.out trivial) ?_
  clear hKK h2 h3 K o
  try simp only [Act.put, List.setIfInBounds_toArray, List.set_cons_zero, List.set_cons_succ]
  refine E_any false 7 (some 13) _ (.int .i64 0) rfl (by kernel_rfl) (by rfl) (fun _ _ _ h => h) (fun o e w _ => by unfold execOp; simp only [e]; go_simp) (.both HT.out trivial) ?_
  simp only [Act.put, List.setIfInBounds_toArray, List.set_cons_zero, List.set_cons_succ]
  refine E_any false 8 (some 14) _ (.bool false) rfl (by kernel_rfl) (by rfl) (fun _ _ _ h => h) (fun o e w _ => by unfold execOp; simp only [e]; go_simp) (.both HT.out trivial) ?_
  simp only [Act.put, List.setIfInBounds_toArray, List.set_cons_zero, List.set_cons_succ]
  refine E_any false 9 (some 15) _ (.int .i64 0) rfl (by kernel_rfl) (by rfl) (fun _ _ _ h => h) (fun o e w _ => by unfold execOp; simp only [e]; go_simp) (.both HT.out trivial) ?_
  simp only [Act.put, List.setIfInBounds_toArray, List.set_cons_zero, List.set_cons_succ]
  refine E_one 10 (by kernel_rfl) (StepE.assign 10 (some 3) _ (.int .i64 0) rfl (by rfl) (by rfl) (.both HT.out trivial) ?_)
  simp only [Act.put, List.setIfInBounds_toArray, List.set_cons_zero, List.set_cons_succ]
  refine E_one 11 (by kernel_rfl) (StepE.assign 11 (some 4) _ (.bool false) rfl (by rfl) (by rfl) (.both HT.out trivial) ?_)
  simp only [Act.put, List.setIfInBounds_toArray, List.set_cons_zero, List.set_cons_succ]
  refine E_one 12 (by kernel_rfl) (StepE.assign 12 (some 5) _ (.int .i64 0) rfl (by rfl) (by rfl) (.both HT.out trivial) ?_)
  simp only [Act.put, List.setIfInBounds_toArray, List.set_cons_zero, List.set_cons_succ]
  refine wpAnyE_done (by kernel_rfl) ?_ _
  go_wp2
  exact bodyPost_ret (v := .tuple #[.int .i64 0, .bool false, .int .i64 0]) (by simp [results, Tryz.results67, go_sem]) rfl ⟨rfl, HL.out⟩
set_option maxHeartbeats 4000000 in
theorem ite3_yes (hE : IteE g a b c way s b4 b5 b6 b7 b11 b12 b13 b14 F W) (hp : PoolAt W base F g p) (hf : (b == c) = true) : Calls Tryz.prog 67 #[.pointer (some ⟨b6, 0, none⟩), .pointer (some ⟨b7, 0, none⟩), .pointer (some ⟨b14, 0, none⟩)] W (fun e w' => ∃ n m, e = .returned (.tuple #[.int .i64 n, .bool true, .int .i64 m]) ∧ RR base g F W (p, b, 0) n m w') := by
  have HE := hide hE
  have HP0 := hide (PG.refl hp)
  have HL0 := hide (Below.refl W.heap.size W)
  clear hE hp
  go_enter Tryz.func67, Tryz.ntmps67
  go_upto_region 1 with fail
  refine wp_region_E (fun w' => Blk w' b6 3 #[.int .i64 b] ∧ Blk w' b7 3 #[.int .i64 c] ∧ Blk w' b14 85 #[.func (.func 64) #[] #[]]) (fun _ => True) [] (by kernel_rfl) ?_
  have HPd := hide (HP0.out.step ((Below.refl _ _).drew))
  have HL := hide (HL0.out.trans (((Below.refl _ _).drew).mono HL0.out.size))
  have HT := hide (⟨(HPd.out.blk HE.out.e6.1 HE.out.e6.2).1, (HPd.out.blk HE.out.e7.1 HE.out.e7.2).1, (HPd.out.blk HE.out.e14.1 HE.out.e14.2).1⟩ : Blk W.drew b6 3 #[.int .i64 b] ∧ Blk W.drew b7 3 #[.int .i64 c] ∧ Blk W.drew b14 85 #[.func (.func 64) #[] #[]])
  clear HP0 HL0
  generalize W.drew = Wd at HT HPd HL ⊢
  refine E_load1 false 0 (some 6) 3 _ ⟨b6, 0, none⟩ (.int .i64 b) rfl (by kernel_rfl) (by rfl) (fun _ _ _ h => h) (by rfl) (fun w hS => run_loadVar_one _ _ _ _ Tryz.underlying3 rfl (hS.1.1.cell 0)) (.both HT.out trivial) ?_
  simp only [Act.put, List.setIfInBounds_toArray, List.set_cons_zero, List.set_cons_succ]
  refine E_load1 false 1 (some 7) 3 _ ⟨b7, 0, none⟩ (.int .i64 c) rfl (by kernel_rfl) (by rfl) (fun _ _ _ h => h) (by rfl) (fun w hS => run_loadVar_one _ _ _ _ Tryz.underlying3 rfl (hS.1.2.1.cell 0)) (.both HT.out trivial) ?_
  simp only [Act.put, List.setIfInBounds_toArray, List.set_cons_zero, List.set_cons_succ]
  refine E_any false 2 (some 8) _ (.bool true) rfl (by kernel_rfl) (by rfl) (fun _ _ _ h => h) (fun o e w _ => by unfold execOp; simp only [e]; go_simp) (.both HT.out trivial) ?_
  simp only [Act.put, List.setIfInBounds_toArray, List.set_cons_zero, List.set_cons_succ]
  refine E_load1 false 3 (some 9) 85 _ ⟨b14, 0, none⟩ (.func (.func 64) #[] #[]) rfl (by kernel_rfl) (by rfl) (fun _ _ _ h => h) (by rfl) (fun w hS => run_loadVar_one _ _ _ _ Tryz.underlying85 rfl (hS.1.2.2.cell 0)) (.both HT.out trivial) ?_
  simp only [Act.put, List.setIfInBounds_toArray, List.set_cons_zero, List.set_cons_succ]
  refine E_load1 false 4 (some 10) 3 _ ⟨b6, 0, none⟩ (.int .i64 b) rfl (by kernel_rfl) (by rfl) (fun _ _ _ h => h) (by rfl) (fun w hS => run_loadVar_one _ _ _ _ Tryz.underlying3 rfl (hS.1.1.cell 0)) (.both HT.out trivial) ?_
  simp only [Act.put, List.setIfInBounds_toArray, List.set_cons_zero, List.set_cons_succ]
  refine E_one 5 (by kernel_rfl) (StepE.of 5 (some 11) _ rfl (by rfl) fun o K h2 h3 hKK => ?_)
  unfold Oper.wp execOp
  simp only [h3]
  go_simp
  refine (same_any _ _).mono ?_
  rintro e w8 ⟨rfl, rfl⟩
  have hb8 := bl_alloc Wd (.cells #[.int .i64 b] 3)
  have HBX := hide (Blk.new Wd 3 #[.int .i64 b])
  replace HPd := hide (HPd.out.step hb8)
  replace HT := hide (⟨(HPd.out.blk HE.out.e6.1 HE.out.e6.2).1, (HPd.out.blk HE.out.e7.1 HE.out.e7.2).1, (HPd.out.blk HE.out.e14.1 HE.out.e14.2).1⟩ : Blk (Wd.alloc (.cells #[.int .i64 b] 3)) b6 3 #[.int .i64 b] ∧ Blk (Wd.alloc (.cells #[.int .i64 b] 3)) b7 3 #[.int .i64 c] ∧ Blk (Wd.alloc (.cells #[.int .i64 b] 3)) b14 85 #[.func (.func 64) #[] #[]])
  replace HL := hide (HL.out.trans (hb8.mono HL.out.size))
  clear hb8
  obtain ⟨bx, hbx⟩ : ∃ b, Wd.heap.size = b := ⟨_, rfl⟩
  rw [hbx] at HBX ⊢
  clear hbx
  generalize Wd.alloc (.cells #[.int .i64 b] 3) = w8 at HT HPd HL HBX ⊢
  dsimp only
  refine hKK _ _ (.both HT.out trivial) ?_
  clear hKK h2 h3 K o
  try simp only [Act.put, List.setIfInBounds_toArray, List.set_cons_zero, List.set_cons_succ]
  refine E_one 6 (by kernel_rfl) (StepE.of 6 (some 12) _ rfl (by rfl) fun o K h2 h3 hKK => ?_)
  unfold Oper.wp execOp
  simp only [h3]
  go_simp
  refine (then_yes 65 _ _ (RR base g F W (p, b, 0)) entersI1_1 ((same1_any _ bx w8 HBX.out).mono fun e w' q => ⟨_, _, q.1, rfl, rfl, F, by rw [← q.2]; exact HPd.out⟩)).mono ?_
  rintro e w9 ⟨n, m, rfl, hrr⟩
  have HRR := hide hrr
  obtain ⟨F9, h9⟩ := hrr.2.2
  clear hrr
  replace HT := hide (⟨(h9.blk HE.out.e6.1 HE.out.e6.2).1, (h9.blk HE.out.e7.1 HE.out.e7.2).1, (h9.blk HE.out.e14.1 HE.out.e14.2).1⟩ : Blk w9 b6 3 #[.int .i64 b] ∧ Blk w9 b7 3 #[.int .i64 c] ∧ Blk w9 b14 85 #[.func (.func 64) #[] #[]])
  clear h9 HBX HPd HL
  dsimp only
  refine hKK _ _ (.both HT.out trivial) ?_
  clear hKK h2 h3 K o
  try simp only [Act.put, List.setIfInBounds_toArray, List.set_cons_zero, List.set_cons_succ]
  refine E_any false 7 (some 13) _ (.int .i64 n) rfl (by kernel_rfl) (by rfl) (fun _ _ _ h => h) (fun o e w _ => by unfold execOp; simp only [e]; go_simp) (.both HT.out trivial) ?_
  simp only [Act.put, List.setIfInBounds_toArray, List.set_cons_zero, List.set_cons_succ]
  refine E_any false 8 (some 14) _ (.bool true) rfl (by kernel_rfl) (by rfl) (fun _ _ _ h => h) (fun o e w _ => by unfold execOp; simp only [e]; go_simp) (.both HT.out trivial) ?_
  simp only [Act.put, List.setIfInBounds_toArray, List.set_cons_zero, List.set_cons_succ]
  refine E_any false 9 (some 15) _ (.int .i64 m) rfl (by kernel_rfl) (by rfl) (fun _ _ _ h => h) (fun o e w _ => by unfold execOp; simp only [e]; go_simp) (.both HT.out trivial) ?_
  simp only [Act.put, List.setIfInBounds_toArray, List.set_cons_zero, List.set_cons_succ]
  refine E_one 10 (by kernel_rfl) (StepE.assign 10 (some 3) _ (.int .i64 n) rfl (by rfl) (by rfl) (.both HT.out trivial) ?_)
  simp only [Act.put, List.setIfInBounds_toArray, List.set_cons_zero, List.set_cons_succ]
  refine E_one 11 (by kernel_rfl) (StepE.assign 11 (some 4) _ (.bool true) rfl (by rfl) (by rfl) (.both HT.out trivial) ?_)
  simp only [Act.put, List.setIfInBounds_toArray, List.set_cons_zero, List.set_cons_succ]
  refine E_one 12 (by kernel_rfl) (StepE.assign 12 (some 5) _ (.int .i64 m) rfl (by rfl) (by rfl) (.both HT.out trivial) ?_)
  simp only [Act.put, List.setIfInBounds_toArray, List.set_cons_zero, List.set_cons_succ]
  refine wpAnyE_done (by kernel_rfl) ?_ _
  go_wp2
  exact bodyPost_ret (v := .tuple #[.int .i64 n, .bool true, .int .i64 m]) (by simp [results, Tryz.results67, go_sem]) rfl ⟨n, m, rfl, HRR.out⟩
/-- Ite's contract, where the fuel reaches. -/
def IteC (base g : Nat) (iF : Nat → PS → Int → Int → Int → Option RS) (f : Nat) : Prop := ∀ (a b c : Int) (ha : I64 a) (hb : I64 b) (hc : I64 c) (F : Nat → Prop) (p : PS) (r : RS) (hO : iF f p a b c = some r) (W : World) (h : PoolAt W base F g p) (hbase : base ≤ W.heap.size),
  Calls Tryz.prog 19 #[.pointer (some ⟨g, 0, none⟩), .int .i64 a, .int .i64 b, .int .i64 c] W (RetP base g F W r)
set_option maxHeartbeats 4000000 in
theorem ite4_do {iF : Nat → PS → Int → Int → Int → Option RS} {q : RS} (hE : IteE g a b c way s b4 b5 b6 b7 b11 b12 b13 b14 F W) (hp : PoolAt W base F g p) (hbase : base ≤ W.heap.size) (hIH : IteC base g iF f) (hsw : s.wf) (hb : I64 b) (hc : I64 c) (hq : condF (f + 1) p 0 s.w s.a s.b = some q) (hz : I64 q.2.1) (hr : bindR q (fun p1 z => iF f p1 z c b) = some r) :
    Calls Tryz.prog 69 #[.pointer (some ⟨b4, 0, none⟩), .pointer (some ⟨b12, 0, none⟩), .pointer (some ⟨b7, 0, none⟩), .pointer (some ⟨b6, 0, none⟩)] W (RetP base g F W r) := by
  have HR := hide hr
  have HIH := hide hIH
  have HB := hide hbase
  have HZI := hide hz
  have HBC := hide (And.intro hb hc)
  have HC := hide (cond_all (base := base) (g := g) (f + 1) 0 s.w s.a s.b hsw.2.2.2.2.1 hsw.2.2.2.2.2.1 F p q hq W hp hbase)
  have HE := hide hE
  have HP := hide hp
  have c4 := hE.e4.1.cell 0
  have q2 := hE.e12.1.cell 2
  have q4 := hE.e12.1.cell 4
  have q5 := hE.e12.1.cell 5
  simp [TD.cells] at c4 q2 q4 q5
  clear hE hp hr hIH hbase hsw hb hc hq hz
  obtain ⟨p1, z, er⟩ := q
  dsimp only at HZI
  go_enter Tryz.func69, Tryz.ntmps69
  go_wp2_with fail
  refine HC.out.mono ?_
  rintro e w1 ⟨rfl, F1, hp1⟩
  have HP1 := hide hp1
  have HE1 := hide (HE.out.pg hp1)
  have hb1 := Nat.le_trans HB.out hp1.size
  clear hp1 c4 q2 q4 q5
  dsimp only at HP1 ⊢
  have c4 := HE1.out.e4.1.cell 0
  have c6 := HE1.out.e6.1.cell 0
  have c7 := HE1.out.e7.1.cell 0
  simp at c4 c6 c7
  cases her : (er == 0)
  · have he2 := bindR_no HR.out (by simpa using her)
    subst he2
    go_wp2
    go_ret2
    exact ⟨rfl, F1, HP1.out⟩
  · have hrec := bindR_ok HR.out (show er = 0 by simpa using her)
    dsimp only at hrec
    have HREC := hide hrec
    clear hrec
    go_wp2_with fail
    refine (HIH.out z c b HZI.out HBC.out.2 HBC.out.1 F1 p1 r HREC.out _ HP1.out.pool hb1).mono ?_
    rintro e w2 ⟨rfl, hr2⟩
    have HR2 := hide hr2
    clear hr2
    go_wp2
    go_ret2
    exact RetP.from HP1.out ⟨rfl, HR2.out⟩
set_option maxHeartbeats 4000000 in
theorem ite4_no (hE : IteE g a b c way s b4 b5 b6 b7 b11 b12 b13 b14 F W) (hp : PoolAt W base F g p) (hf : (s.kind == 4 && s.op == 1) = false) : Calls Tryz.prog 68 #[.pointer (some ⟨b12, 0, none⟩), .pointer (some ⟨b4, 0, none⟩), .pointer (some ⟨b7, 0, none⟩), .pointer (some ⟨b6, 0, none⟩)] W (fun e w' => e = .returned (.tuple #[.int .i64 0, .bool false, .int .i64 0]) ∧ Below W.heap.size W w') := by
  have q0 := hE.e12.1.cell 0
  have q1 := hE.e12.1.cell 1
  simp [TD.cells] at q0 q1
  clear hE hp
  cases h1 : (s.kind == 4)
  · clear hf
    go_enter Tryz.func68, Tryz.ntmps68
    go_wp2_with fail
    refine (then_no _ _).mono ?_
    rintro e w1 ⟨rfl, rfl⟩
    go_wp2
    exact bodyPost_ret (v := .tuple #[.int .i64 0, .bool false, .int .i64 0]) (by simp [results, Tryz.results68, go_sem]) rfl ⟨rfl, Below.refl _ _⟩
  · have h2 : (s.op == 1) = false := by rw [h1] at hf; simpa using hf
    clear hf
    go_enter Tryz.func68, Tryz.ntmps68
    go_wp2_with fail
    refine (then_no _ _).mono ?_
    rintro e w1 ⟨rfl, rfl⟩
    go_wp2
    exact bodyPost_ret (v := .tuple #[.int .i64 0, .bool false, .int .i64 0]) (by simp [results, Tryz.results68, go_sem]) rfl ⟨rfl, Below.refl _ _⟩
set_option maxHeartbeats 4000000 in
theorem ite4_yes (hE : IteE g a b c way s b4 b5 b6 b7 b11 b12 b13 b14 F W) (hp : PoolAt W base F g p) (H0 : Calls Tryz.prog 69 #[.pointer (some ⟨b4, 0, none⟩), .pointer (some ⟨b12, 0, none⟩), .pointer (some ⟨b7, 0, none⟩), .pointer (some ⟨b6, 0, none⟩)] W (RetP base g F W r)) (hf : (s.kind == 4 && s.op == 1) = true) : Calls Tryz.prog 68 #[.pointer (some ⟨b12, 0, none⟩), .pointer (some ⟨b4, 0, none⟩), .pointer (some ⟨b7, 0, none⟩), .pointer (some ⟨b6, 0, none⟩)] W (fun e w' => ∃ n m, e = .returned (.tuple #[.int .i64 n, .bool true, .int .i64 m]) ∧ RR base g F W r n m w') := by
  have q0 := hE.e12.1.cell 0
  have q1 := hE.e12.1.cell 1
  simp [TD.cells] at q0 q1
  have H := hide H0
  have h1 : (s.kind == 4) = true := by revert hf; cases (s.kind == 4) <;> simp
  have h2 : (s.op == 1) = true := by revert hf; rw [h1]; simp
  clear hE hp H0 hf
  go_enter Tryz.func68, Tryz.ntmps68
  go_wp2_with fail
  refine (then_yes 69 _ _ (RR base g F W r) entersI4_1 (H.out.mono fun e w' q => RR.of q)).mono ?_
  rintro e w1 ⟨n, m, rfl, hr⟩
  have HRR := hide hr
  clear hr
  go_wp2
  exact bodyPost_ret (v := .tuple #[.int .i64 n, .bool true, .int .i64 m]) (by simp [results, Tryz.results68, go_sem]) rfl ⟨n, m, rfl, HRR.out⟩
def iteT (a b c : Int) : TD := ⟨5, 0, 0, 0, a, b, c⟩
theorem iteT_wf {a b c : Int} (ha : I64 a) (hb : I64 b) (hc : I64 c) : (iteT a b c).wf := by unfold TD.wf I8 U64 I64 iteT; unfold I64 at ha hb hc; dsimp only; exact ⟨by omega, by omega, by omega, by omega, ha, hb, hc⟩
theorem build_ite (a b c : Int) (w : World) : (Instr.build 67 #[(0, .int .i8 5), (4, .int .i64 a), (5, .int .i64 b), (6, .int .i64 c)]).run Tryz.prog w = .ok (termV (iteT a b c)) w := run_build w 67 _ _ (by kernel_rfl)
set_option maxHeartbeats 2000000 in
theorem ite6_any (hE : IteE g a b c way s b4 b5 b6 b7 b11 b12 b13 b14 F W) (hp : PoolAt W base F g p) (hbase : base ≤ W.heap.size) (ha : I64 a) (hb : I64 b) (hc : I64 c) : Calls Tryz.prog 72 #[.pointer (some ⟨b4, 0, none⟩), .pointer (some ⟨b5, 0, none⟩), .pointer (some ⟨b6, 0, none⟩), .pointer (some ⟨b7, 0, none⟩)] W (RetP base g F W (putR p (iteT a b c))) := by
  have HC := hide (put_r _ (iteT_wf ha hb hc) W hp hbase)
  have q := fun (w : World) => build_ite a b c w
  have c4 := hE.e4.1.cell 0
  have c5 := hE.e5.1.cell 0
  have c6 := hE.e6.1.cell 0
  have c7 := hE.e7.1.cell 0
  simp at c4 c5 c6 c7
  clear hE hp hbase ha hb hc
  go_enter Tryz.func72, Tryz.ntmps72
  go_wp2_with fail
  refine HC.out.mono ?_
  rintro e w1 ⟨rfl, hr⟩
  have HR := hide hr
  clear hr
  go_wp2
  go_ret2
  exact ⟨rfl, HR.out⟩
end
end Go.Proofs.YtfjflefgclfbfaaGreat
