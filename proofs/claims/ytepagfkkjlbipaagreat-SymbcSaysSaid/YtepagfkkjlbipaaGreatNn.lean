/-
  Contracts of Op's laws 3, 5, 10, 11, 12. Conditions: those written in each statement.
-/
import Derived.Test.YtepagfkkjlbipaaGreatNk
import Derived.Test.YtepagfkkjlbipaaGreatKad
import Derived.Laws.Closers25b
import Derived.Test.YtepagfkkjlbipaaGreatKag
namespace Go.Proofs.YtepagfkkjlbipaaGreat
open Go.RowKit
set_option linter.unusedVariables false
set_option linter.unusedSimpArgs false
set_option maxRecDepth 100000
section
variable {base f g : Nat} {op x a b c d : Int} {lf rt tn sh : Bool} {b5 b6 b7 b8 b9 b15 b17 b18 b19 b20 b21 b22 b23 b24 : Nat} {F : Nat → Prop} {W : World} {p : PS} {r : RS}
theorem bits_u64 (o : BinOp) (a b : Int) : U64 (bits o .u64 a b) := by
 have h := bits_within o .u64 a b
 have h1 : IntKind.u64.min = 0 := rfl
 have h2 : IntKind.u64.max = 18446744073709551615 := rfl
 unfold U64
 rw [h1, h2] at h
 omega
theorem wrap_u64 (a : Int) : U64 (IntKind.u64.wrap a) := by unfold U64; rw [IntKind.wrap_u64]; omega
theorem ite_u64 {c : Prop} [Decidable c] {a b : Int} (ha : c → U64 a) (hb : ¬ c → U64 b) : U64 (if c then a else b) := by
 by_cases h : c
 ·rw [if_pos h]; exact ha h
 ·rw [if_neg h]; exact hb h
theorem shr_u64 {a : Int} (y : Int) (ha : U64 a) : U64 (a / 2 ^ y.toNat) := by
 unfold U64 at *
 have h1 : (0 : Int) < 2 ^ y.toNat := Int.pow_pos (by omega)
 exact ⟨Int.ediv_nonneg ha.1 (by omega), Int.lt_of_le_of_lt (Int.ediv_le_self _ ha.1) ha.2⟩
theorem mod_u64 {a b : Int} (ha : U64 a) (hb : U64 b) (h0 : b ≠ 0) : U64 (a.tmod b) := by
 unfold U64 at *
 rw [Int.tmod_eq_emod_of_nonneg ha.1]
 have := Int.emod_lt_of_pos a (show 0 < b by omega)
 exact ⟨Int.emod_nonneg _ h0, by omega⟩
theorem zero_u64 : U64 0 := by unfold U64; omega
theorem doV_u64 {op a b y x : Int} (ha : U64 a) (hb : U64 b) : U64 (doV op a b y x) :=
 ite_u64 (fun _ => wrap_u64 _) fun _ => ite_u64 (fun _ => wrap_u64 _) fun _ => ite_u64 (fun _ => wrap_u64 _) fun _ =>
 ite_u64 (fun _ => ite_u64 (fun _ => zero_u64) fun _ => wrap_u64 _) fun _ => ite_u64 (fun _ => bits_u64 _ _ _) fun _ => ite_u64 (fun _ => bits_u64 _ _ _) fun _ =>
 ite_u64 (fun _ => wrap_u64 _) fun _ => ite_u64 (fun _ => shr_u64 _ ha) fun _ => ite_u64 (fun _ => wrap_u64 _) fun _ =>
 ite_u64 (fun _ => ite_u64 (fun _ => ha) fun h => mod_u64 ha hb h) fun _ => ite_u64 (fun _ => bits_u64 _ _ _) fun _ => ite_u64 (fun _ => hb) fun _ => wrap_u64 _
theorem doU_u64 {op x a b : Int} (h : doOk op x = true) (ha : U64 a) (hb : U64 b) : U64 (doU op x a b) := cutV_u64 (doV_u64 (cutV_u64 ha) (cutV_u64 hb))
set_option maxHeartbeats 8000000 in
theorem law3_no (hE : OpE g op x a b c d lf rt tn sh b5 b6 b7 b8 b9 b15 b17 b18 b19 b20 b21 b22 b23 b24 F W) (hp : PoolAt W base F g p) (hOk : doOk op x = true) (hUc : U64 c) (hUd : U64 d) (hf : (lf && rt) = false) :
  Calls Tryz.prog 120 #[.pointer (some ⟨b6, 0, none⟩), .pointer (some ⟨b7, 0, none⟩), .pointer (some ⟨b17, 0, none⟩), .pointer (some ⟨b19, 0, none⟩), .pointer (some ⟨b18, 0, none⟩), .pointer (some ⟨b20, 0, none⟩), .pointer (some ⟨b21, 0, none⟩)] W (fun e w' => e = .returned (.tuple #[.int .i64 0, .bool false, .int .i64 0]) ∧ Below W.heap.size W w') := by
 cases lf
 ·clear hf
  have HE := hide hE
  have HP := hide hp
  have c6 := hE.e6.1.cell 0
  have c7 := hE.e7.1.cell 0
  have c17 := hE.e17.1.cell 0
  have c19 := hE.e19.1.cell 0
  simp at c6 c7 c17 c19
  obtain ⟨V, hV⟩ : ∃ V, doU op x c d = V := ⟨_, rfl⟩
  have HD := hide (do_yes c d W hOk hUd)
  have HUV := hide (show U64 V by rw [← hV]; exact doU_u64 hOk hUc hUd)
  rw [hV] at HD
  try rw [hV] at HR
  clear hE hp hOk hUd hUc hV
  go_enter Tryz.func120, Tryz.ntmps120
  go_wp2_with fail
  refine HD.out.mono ?_
  rintro e w1 ⟨rfl, hb⟩
  have HP0 := hide (PG.of_below HP.out hb)
  have HL0 := hide hb
  clear hb c6 c7 c17 c19
  go_upto_region 2 with fail
  refine wp_region_E (fun w' => Blk w' b18 4 #[.bool false] ∧ Blk w' b20 4 #[.bool rt] ∧ Blk w' b21 177 #[.func (.func 114) #[] #[.pointer (some ⟨b5, 0, none⟩)]]) (fun _ => True) [] (by kernel_rfl) ?_
  have HPd := hide (HP0.out.step ((Below.refl _ _).drew))
  have HL := hide (HL0.out.trans (((Below.refl _ _).drew).mono HL0.out.size))
  have HT := hide (⟨(HPd.out.blk HE.out.e18.1 HE.out.e18.2).1, (HPd.out.blk HE.out.e20.1 HE.out.e20.2).1, (HPd.out.blk HE.out.e21.1 HE.out.e21.2).1⟩ : Blk w1.drew b18 4 #[.bool false] ∧ Blk w1.drew b20 4 #[.bool rt] ∧ Blk w1.drew b21 177 #[.func (.func 114) #[] #[.pointer (some ⟨b5, 0, none⟩)]])
  clear HP0 HL0
  generalize w1.drew = Wd at HT HPd HL ⊢
  refine el false 0 ⟨b18, 0, none⟩ (.bool false) Tryz.underlying4 (fun w hS => (hS.1.1.cell 0)) (.both HT.out trivial) ?_
  simp only [sL]
  refine em 1 (.bool false) (.both HT.out trivial) ?_
  simp only [sL]
  refine en 2 (.both HT.out trivial) ?_
  simp only [sL]
  refine ep 3 false (.bool false) (.both HT.out trivial) ?_
  simp only [sL]
  refine E_load1 false 4 (some 24) 177 _ ⟨b21, 0, none⟩ (.func (.func 114) #[] #[.pointer (some ⟨b5, 0, none⟩)]) rfl (by kernel_rfl) (by rfl) (fun _ _ _ h => h) (by rfl) (fun w hS => run_loadVar_one _ _ _ _ Tryz.underlying177 rfl (hS.1.2.2.cell 0)) (.both HT.out trivial) ?_
  simp only [pt, pn, sL]
  refine em 5 (.int .u64 V) (.both HT.out trivial) ?_
  simp only [sL]
  refine E_one 6 (by kernel_rfl) (StepE.of 6 (some 26) _ rfl (by rfl) fun o K h2 h3 hKK => ?_)
  unfold Oper.wp execOp
  simp only [h3]
  go_simp
  refine (number_any _ _ _).mono ?_
  rintro e w8 ⟨rfl, rfl⟩
  have hb8 : Below Wd.heap.size Wd (Wd.alloc (.cells #[.int .u64 V] 31)) := (Below.refl _ _).alloc (Nat.le_refl _) _
  have HBX := hide (Blk.new Wd 31 #[.int .u64 V])
  replace HPd := hide (HPd.out.step hb8)
  replace HT := hide (⟨(HPd.out.blk HE.out.e18.1 HE.out.e18.2).1, (HPd.out.blk HE.out.e20.1 HE.out.e20.2).1, (HPd.out.blk HE.out.e21.1 HE.out.e21.2).1⟩ : Blk (Wd.alloc (.cells #[.int .u64 V] 31)) b18 4 #[.bool false] ∧ Blk (Wd.alloc (.cells #[.int .u64 V] 31)) b20 4 #[.bool rt] ∧ Blk (Wd.alloc (.cells #[.int .u64 V] 31)) b21 177 #[.func (.func 114) #[] #[.pointer (some ⟨b5, 0, none⟩)]])
  replace HL := hide (HL.out.trans (hb8.mono HL.out.size))
  clear hb8
  obtain ⟨bx, hbx⟩ : ∃ b, Wd.heap.size = b := ⟨_, rfl⟩
  rw [hbx] at HBX ⊢
  clear hbx
  generalize Wd.alloc (.cells #[.int .u64 V] 31) = w8 at HT HPd HL HBX ⊢
  dsimp only
  refine hKK _ _ (.both HT.out trivial) ?_
  clear hKK h2 h3 K o
  try simp only [pt, pn, sL]
  refine E_one 7 (by kernel_rfl) (StepE.of 7 (some 27) _ rfl (by rfl) fun o K h2 h3 hKK => ?_)
  unfold Oper.wp execOp
  simp only [h3]
  go_simp
  refine (then_no _ _).mono ?_
  rintro e w9 ⟨rfl, rfl⟩
  dsimp only
  refine hKK _ _ (.both HT.out trivial) ?_
  clear hKK h2 h3 K o
  try simp only [pt, pn, sL]
  refine eg 8 (.int .i64 0) (.both HT.out trivial) ?_
  simp only [sL]
  refine eg 9 (.bool false) (.both HT.out trivial) ?_
  simp only [sL]
  refine eg 10 (.int .i64 0) (.both HT.out trivial) ?_
  simp only [sL]
  refine E_one 11 (by kernel_rfl) (StepE.assign 11 (some 7) _ (.int .i64 0) rfl (by rfl) (by rfl) (.both HT.out trivial) ?_)
  simp only [pt, pn, sL]
  refine E_one 12 (by kernel_rfl) (StepE.assign 12 (some 8) _ (.bool false) rfl (by rfl) (by rfl) (.both HT.out trivial) ?_)
  simp only [pt, pn, sL]
  refine E_one 13 (by kernel_rfl) (StepE.assign 13 (some 9) _ (.int .i64 0) rfl (by rfl) (by rfl) (.both HT.out trivial) ?_)
  simp only [pt, pn, sL]
  refine wpAnyE_done (by kernel_rfl) ?_ _
  go_wp2
  exact bodyPost_ret (v := .tuple #[.int .i64 0, .bool false, .int .i64 0]) (by simp [results, Tryz.results120, go_sem]) rfl ⟨rfl, HL.out⟩
 ·obtain rfl : rt = false := by simpa using hf
  clear hf
  have HE := hide hE
  have HP := hide hp
  have c6 := hE.e6.1.cell 0
  have c7 := hE.e7.1.cell 0
  have c17 := hE.e17.1.cell 0
  have c19 := hE.e19.1.cell 0
  simp at c6 c7 c17 c19
  obtain ⟨V, hV⟩ : ∃ V, doU op x c d = V := ⟨_, rfl⟩
  have HD := hide (do_yes c d W hOk hUd)
  have HUV := hide (show U64 V by rw [← hV]; exact doU_u64 hOk hUc hUd)
  rw [hV] at HD
  try rw [hV] at HR
  clear hE hp hOk hUd hUc hV
  go_enter Tryz.func120, Tryz.ntmps120
  go_wp2_with fail
  refine HD.out.mono ?_
  rintro e w1 ⟨rfl, hb⟩
  have HP0 := hide (PG.of_below HP.out hb)
  have HL0 := hide hb
  clear hb c6 c7 c17 c19
  go_upto_region 2 with fail
  refine wp_region_E (fun w' => Blk w' b18 4 #[.bool true] ∧ Blk w' b20 4 #[.bool false] ∧ Blk w' b21 177 #[.func (.func 114) #[] #[.pointer (some ⟨b5, 0, none⟩)]]) (fun _ => True) [] (by kernel_rfl) ?_
  have HPd := hide (HP0.out.step ((Below.refl _ _).drew))
  have HL := hide (HL0.out.trans (((Below.refl _ _).drew).mono HL0.out.size))
  have HT := hide (⟨(HPd.out.blk HE.out.e18.1 HE.out.e18.2).1, (HPd.out.blk HE.out.e20.1 HE.out.e20.2).1, (HPd.out.blk HE.out.e21.1 HE.out.e21.2).1⟩ : Blk w1.drew b18 4 #[.bool true] ∧ Blk w1.drew b20 4 #[.bool false] ∧ Blk w1.drew b21 177 #[.func (.func 114) #[] #[.pointer (some ⟨b5, 0, none⟩)]])
  clear HP0 HL0
  generalize w1.drew = Wd at HT HPd HL ⊢
  refine el false 0 ⟨b18, 0, none⟩ (.bool true) Tryz.underlying4 (fun w hS => (hS.1.1.cell 0)) (.both HT.out trivial) ?_
  simp only [sL]
  refine em 1 (.bool true) (.both HT.out trivial) ?_
  simp only [sL]
  refine el false 2 ⟨b20, 0, none⟩ (.bool false) Tryz.underlying4 (fun w hS => (hS.1.2.1.cell 0)) (.both HT.out trivial) ?_
  simp only [sL]
  refine ep 3 true (.bool false) (.both HT.out trivial) ?_
  simp only [sL]
  refine E_load1 false 4 (some 24) 177 _ ⟨b21, 0, none⟩ (.func (.func 114) #[] #[.pointer (some ⟨b5, 0, none⟩)]) rfl (by kernel_rfl) (by rfl) (fun _ _ _ h => h) (by rfl) (fun w hS => run_loadVar_one _ _ _ _ Tryz.underlying177 rfl (hS.1.2.2.cell 0)) (.both HT.out trivial) ?_
  simp only [pt, pn, sL]
  refine em 5 (.int .u64 V) (.both HT.out trivial) ?_
  simp only [sL]
  refine E_one 6 (by kernel_rfl) (StepE.of 6 (some 26) _ rfl (by rfl) fun o K h2 h3 hKK => ?_)
  unfold Oper.wp execOp
  simp only [h3]
  go_simp
  refine (number_any _ _ _).mono ?_
  rintro e w8 ⟨rfl, rfl⟩
  have hb8 : Below Wd.heap.size Wd (Wd.alloc (.cells #[.int .u64 V] 31)) := (Below.refl _ _).alloc (Nat.le_refl _) _
  have HBX := hide (Blk.new Wd 31 #[.int .u64 V])
  replace HPd := hide (HPd.out.step hb8)
  replace HT := hide (⟨(HPd.out.blk HE.out.e18.1 HE.out.e18.2).1, (HPd.out.blk HE.out.e20.1 HE.out.e20.2).1, (HPd.out.blk HE.out.e21.1 HE.out.e21.2).1⟩ : Blk (Wd.alloc (.cells #[.int .u64 V] 31)) b18 4 #[.bool true] ∧ Blk (Wd.alloc (.cells #[.int .u64 V] 31)) b20 4 #[.bool false] ∧ Blk (Wd.alloc (.cells #[.int .u64 V] 31)) b21 177 #[.func (.func 114) #[] #[.pointer (some ⟨b5, 0, none⟩)]])
  replace HL := hide (HL.out.trans (hb8.mono HL.out.size))
  clear hb8
  obtain ⟨bx, hbx⟩ : ∃ b, Wd.heap.size = b := ⟨_, rfl⟩
  rw [hbx] at HBX ⊢
  clear hbx
  generalize Wd.alloc (.cells #[.int .u64 V] 31) = w8 at HT HPd HL HBX ⊢
  dsimp only
  refine hKK _ _ (.both HT.out trivial) ?_
  clear hKK h2 h3 K o
  try simp only [pt, pn, sL]
  refine E_one 7 (by kernel_rfl) (StepE.of 7 (some 27) _ rfl (by rfl) fun o K h2 h3 hKK => ?_)
  unfold Oper.wp execOp
  simp only [h3]
  go_simp
  refine (then_no _ _).mono ?_
  rintro e w9 ⟨rfl, rfl⟩
  dsimp only
  refine hKK _ _ (.both HT.out trivial) ?_
  clear hKK h2 h3 K o
  try simp only [pt, pn, sL]
  refine eg 8 (.int .i64 0) (.both HT.out trivial) ?_
  simp only [sL]
  refine eg 9 (.bool false) (.both HT.out trivial) ?_
  simp only [sL]
  refine eg 10 (.int .i64 0) (.both HT.out trivial) ?_
  simp only [sL]
  refine E_one 11 (by kernel_rfl) (StepE.assign 11 (some 7) _ (.int .i64 0) rfl (by rfl) (by rfl) (.both HT.out trivial) ?_)
  simp only [pt, pn, sL]
  refine E_one 12 (by kernel_rfl) (StepE.assign 12 (some 8) _ (.bool false) rfl (by rfl) (by rfl) (.both HT.out trivial) ?_)
  simp only [pt, pn, sL]
  refine E_one 13 (by kernel_rfl) (StepE.assign 13 (some 9) _ (.int .i64 0) rfl (by rfl) (by rfl) (.both HT.out trivial) ?_)
  simp only [pt, pn, sL]
  refine wpAnyE_done (by kernel_rfl) ?_ _
  go_wp2
  exact bodyPost_ret (v := .tuple #[.int .i64 0, .bool false, .int .i64 0]) (by simp [results, Tryz.results120, go_sem]) rfl ⟨rfl, HL.out⟩
set_option maxHeartbeats 8000000 in
theorem law3_yes (hE : OpE g op x a b c d lf rt tn sh b5 b6 b7 b8 b9 b15 b17 b18 b19 b20 b21 b22 b23 b24 F W) (hp : PoolAt W base F g p) (hOk : doOk op x = true) (hUc : U64 c) (hUd : U64 d) (hbase : base ≤ W.heap.size) (hr : putR p (constT (doU op x c d)) = r) (hf : (lf && rt) = true) :
  Calls Tryz.prog 120 #[.pointer (some ⟨b6, 0, none⟩), .pointer (some ⟨b7, 0, none⟩), .pointer (some ⟨b17, 0, none⟩), .pointer (some ⟨b19, 0, none⟩), .pointer (some ⟨b18, 0, none⟩), .pointer (some ⟨b20, 0, none⟩), .pointer (some ⟨b21, 0, none⟩)] W (fun e w' => ∃ n m, e = .returned (.tuple #[.int .i64 n, .bool true, .int .i64 m]) ∧ RR base g F W r n m w') := by
 have HB := hide hbase
 have HR := hide hr
 clear hbase hr
 obtain rfl : lf = true := by revert hf; cases lf <;> simp
 obtain rfl : rt = true := by revert hf; cases rt <;> simp
 clear hf
 have HE := hide hE
 have HP := hide hp
 have c6 := hE.e6.1.cell 0
 have c7 := hE.e7.1.cell 0
 have c17 := hE.e17.1.cell 0
 have c19 := hE.e19.1.cell 0
 simp at c6 c7 c17 c19
 obtain ⟨V, hV⟩ : ∃ V, doU op x c d = V := ⟨_, rfl⟩
 have HD := hide (do_yes c d W hOk hUd)
 have HUV := hide (show U64 V by rw [← hV]; exact doU_u64 hOk hUc hUd)
 rw [hV] at HD
 try rw [hV] at HR
 clear hE hp hOk hUd hUc hV
 go_enter Tryz.func120, Tryz.ntmps120
 go_wp2_with fail
 refine HD.out.mono ?_
 rintro e w1 ⟨rfl, hb⟩
 have HP0 := hide (PG.of_below HP.out hb)
 have HL0 := hide hb
 clear hb c6 c7 c17 c19
 go_upto_region 2 with fail
 refine wp_region_E (fun w' => Blk w' b18 4 #[.bool true] ∧ Blk w' b20 4 #[.bool true] ∧ Blk w' b21 177 #[.func (.func 114) #[] #[.pointer (some ⟨b5, 0, none⟩)]]) (fun _ => True) [] (by kernel_rfl) ?_
 have HPd := hide (HP0.out.step ((Below.refl _ _).drew))
 have HL := hide (HL0.out.trans (((Below.refl _ _).drew).mono HL0.out.size))
 have HT := hide (⟨(HPd.out.blk HE.out.e18.1 HE.out.e18.2).1, (HPd.out.blk HE.out.e20.1 HE.out.e20.2).1, (HPd.out.blk HE.out.e21.1 HE.out.e21.2).1⟩ : Blk w1.drew b18 4 #[.bool true] ∧ Blk w1.drew b20 4 #[.bool true] ∧ Blk w1.drew b21 177 #[.func (.func 114) #[] #[.pointer (some ⟨b5, 0, none⟩)]])
 clear HP0 HL0
 generalize w1.drew = Wd at HT HPd HL ⊢
 refine el false 0 ⟨b18, 0, none⟩ (.bool true) Tryz.underlying4 (fun w hS => (hS.1.1.cell 0)) (.both HT.out trivial) ?_
 simp only [sL]
 refine em 1 (.bool true) (.both HT.out trivial) ?_
 simp only [sL]
 refine el false 2 ⟨b20, 0, none⟩ (.bool true) Tryz.underlying4 (fun w hS => (hS.1.2.1.cell 0)) (.both HT.out trivial) ?_
 simp only [sL]
 refine ep 3 true (.bool true) (.both HT.out trivial) ?_
 simp only [sL]
 refine E_load1 false 4 (some 24) 177 _ ⟨b21, 0, none⟩ (.func (.func 114) #[] #[.pointer (some ⟨b5, 0, none⟩)]) rfl (by kernel_rfl) (by rfl) (fun _ _ _ h => h) (by rfl) (fun w hS => run_loadVar_one _ _ _ _ Tryz.underlying177 rfl (hS.1.2.2.cell 0)) (.both HT.out trivial) ?_
 simp only [pt, pn, sL]
 refine em 5 (.int .u64 V) (.both HT.out trivial) ?_
 simp only [sL]
 refine E_one 6 (by kernel_rfl) (StepE.of 6 (some 26) _ rfl (by rfl) fun o K h2 h3 hKK => ?_)
 unfold Oper.wp execOp
 simp only [h3]
 go_simp
 refine (number_any _ _ _).mono ?_
 rintro e w8 ⟨rfl, rfl⟩
 have hb8 : Below Wd.heap.size Wd (Wd.alloc (.cells #[.int .u64 V] 31)) := (Below.refl _ _).alloc (Nat.le_refl _) _
 have HBX := hide (Blk.new Wd 31 #[.int .u64 V])
 replace HPd := hide (HPd.out.step hb8)
 replace HT := hide (⟨(HPd.out.blk HE.out.e18.1 HE.out.e18.2).1, (HPd.out.blk HE.out.e20.1 HE.out.e20.2).1, (HPd.out.blk HE.out.e21.1 HE.out.e21.2).1⟩ : Blk (Wd.alloc (.cells #[.int .u64 V] 31)) b18 4 #[.bool true] ∧ Blk (Wd.alloc (.cells #[.int .u64 V] 31)) b20 4 #[.bool true] ∧ Blk (Wd.alloc (.cells #[.int .u64 V] 31)) b21 177 #[.func (.func 114) #[] #[.pointer (some ⟨b5, 0, none⟩)]])
 replace HL := hide (HL.out.trans (hb8.mono HL.out.size))
 clear hb8
 obtain ⟨bx, hbx⟩ : ∃ b, Wd.heap.size = b := ⟨_, rfl⟩
 rw [hbx] at HBX ⊢
 clear hbx
 generalize Wd.alloc (.cells #[.int .u64 V] 31) = w8 at HT HPd HL HBX ⊢
 dsimp only
 refine hKK _ _ (.both HT.out trivial) ?_
 clear hKK h2 h3 K o
 try simp only [pt, pn, sL]
 refine E_one 7 (by kernel_rfl) (StepE.of 7 (some 27) _ rfl (by rfl) fun o K h2 h3 hKK => ?_)
 unfold Oper.wp execOp
 simp only [h3]
 go_simp
 have H := number1_any (F := F) _ HUV.out b5 bx w8 HPd.out.pool (Nat.le_trans HB.out HPd.out.size) (HPd.out.blk HE.out.e5.1 HE.out.e5.2).1 HBX.out
 rw [HR.out] at H
 refine (then_yes 115 _ _ (RR base g F W r) enters1_1 (H.mono fun e w' q => RR.of (RetP.from HPd.out q))).mono ?_
 clear H
 rintro e w9 ⟨n, m, rfl, hrr⟩
 have HRR := hide hrr
 obtain ⟨_, _, F9, h9⟩ := hrr
 replace HT := hide (⟨(h9.blk HE.out.e18.1 HE.out.e18.2).1, (h9.blk HE.out.e20.1 HE.out.e20.2).1, (h9.blk HE.out.e21.1 HE.out.e21.2).1⟩ : Blk w9 b18 4 #[.bool true] ∧ Blk w9 b20 4 #[.bool true] ∧ Blk w9 b21 177 #[.func (.func 114) #[] #[.pointer (some ⟨b5, 0, none⟩)]])
 clear h9 HBX HPd HL
 dsimp only
 refine hKK _ _ (.both HT.out trivial) ?_
 clear hKK h2 h3 K o
 try simp only [pt, pn, sL]
 refine eg 8 (.int .i64 n) (.both HT.out trivial) ?_
 simp only [sL]
 refine eg 9 (.bool true) (.both HT.out trivial) ?_
 simp only [sL]
 refine eg 10 (.int .i64 m) (.both HT.out trivial) ?_
 simp only [sL]
 refine E_one 11 (by kernel_rfl) (StepE.assign 11 (some 7) _ (.int .i64 n) rfl (by rfl) (by rfl) (.both HT.out trivial) ?_)
 simp only [pt, pn, sL]
 refine E_one 12 (by kernel_rfl) (StepE.assign 12 (some 8) _ (.bool true) rfl (by rfl) (by rfl) (.both HT.out trivial) ?_)
 simp only [pt, pn, sL]
 refine E_one 13 (by kernel_rfl) (StepE.assign 13 (some 9) _ (.int .i64 m) rfl (by rfl) (by rfl) (.both HT.out trivial) ?_)
 simp only [pt, pn, sL]
 refine wpAnyE_done (by kernel_rfl) ?_ _
 go_wp2
 exact bodyPost_ret (v := .tuple #[.int .i64 n, .bool true, .int .i64 m]) (by simp [results, Tryz.results120, go_sem]) rfl ⟨n, m, rfl, HRR.out⟩
set_option maxHeartbeats 8000000 in
theorem law5_no (hE : OpE g op x a b c d lf rt tn sh b5 b6 b7 b8 b9 b15 b17 b18 b19 b20 b21 b22 b23 b24 F W) (hp : PoolAt W base F g p) (hf : (op == 11) = false) :
  Calls Tryz.prog 124 #[.pointer (some ⟨b6, 0, none⟩), .pointer (some ⟨b22, 0, none⟩), .pointer (some ⟨b9, 0, none⟩)] W (fun e w' => e = .returned (.tuple #[.int .i64 0, .bool false, .int .i64 0]) ∧ Below W.heap.size W w') := by
 skip
 have HE := hide hE
 have HP := hide hp
 have HP0 := hide (PG.refl hp)
 have HL0 := hide (Below.refl W.heap.size W)
 clear hE hp
 go_enter Tryz.func124, Tryz.ntmps124
 go_upto_region 1 with fail
 refine wp_region_E (fun w' => Blk w' b6 30 #[.int .i8 op] ∧ Blk w' b22 179 #[.func (.func 116) #[] #[.pointer (some ⟨b15, 0, none⟩), .pointer (some ⟨b7, 0, none⟩)]] ∧ Blk w' b9 3 #[.int .i64 b]) (fun _ => True) [] (by kernel_rfl) ?_
 have HPd := hide (HP0.out.step ((Below.refl _ _).drew))
 have HL := hide (HL0.out.trans (((Below.refl _ _).drew).mono HL0.out.size))
 have HT := hide (⟨(HPd.out.blk HE.out.e6.1 HE.out.e6.2).1, (HPd.out.blk HE.out.e22.1 HE.out.e22.2).1, (HPd.out.blk HE.out.e9.1 HE.out.e9.2).1⟩ : Blk W.drew b6 30 #[.int .i8 op] ∧ Blk W.drew b22 179 #[.func (.func 116) #[] #[.pointer (some ⟨b15, 0, none⟩), .pointer (some ⟨b7, 0, none⟩)]] ∧ Blk W.drew b9 3 #[.int .i64 b])
 clear HP0 HL0
 generalize W.drew = Wd at HT HPd HL ⊢
 refine el false 0 ⟨b6, 0, none⟩ (.int .i8 op) Tryz.underlying30 (fun w hS => (hS.1.1.cell 0)) (.both HT.out trivial) ?_
 simp only [sL]
 refine eg 1 (.bool false) (.both HT.out trivial) ?_
 simp only [sL]
 refine E_load1 false 2 (some 8) 179 _ ⟨b22, 0, none⟩ (.func (.func 116) #[] #[.pointer (some ⟨b15, 0, none⟩), .pointer (some ⟨b7, 0, none⟩)]) rfl (by kernel_rfl) (by rfl) (fun _ _ _ h => h) (by rfl) (fun w hS => run_loadVar_one _ _ _ _ Tryz.underlying179 rfl (hS.1.2.1.cell 0)) (.both HT.out trivial) ?_
 simp only [pt, pn, sL]
 refine el false 3 ⟨b9, 0, none⟩ (.int .i64 b) Tryz.underlying3 (fun w hS => (hS.1.2.2.cell 0)) (.both HT.out trivial) ?_
 simp only [sL]
 refine E_one 4 (by kernel_rfl) (StepE.of 4 (some 10) _ rfl (by rfl) fun o K h2 h3 hKK => ?_)
 unfold Oper.wp execOp
 simp only [h3]
 go_simp
 refine (as_any _ _ _ _).mono ?_
 rintro e w8 ⟨rfl, rfl⟩
 have hb8 : Below Wd.heap.size Wd (Wd.alloc (.cells #[.int .i64 b] 3)) := (Below.refl _ _).alloc (Nat.le_refl _) _
 have HBX := hide (Blk.new Wd 3 #[.int .i64 b])
 replace HPd := hide (HPd.out.step hb8)
 replace HT := hide (⟨(HPd.out.blk HE.out.e6.1 HE.out.e6.2).1, (HPd.out.blk HE.out.e22.1 HE.out.e22.2).1, (HPd.out.blk HE.out.e9.1 HE.out.e9.2).1⟩ : Blk (Wd.alloc (.cells #[.int .i64 b] 3)) b6 30 #[.int .i8 op] ∧ Blk (Wd.alloc (.cells #[.int .i64 b] 3)) b22 179 #[.func (.func 116) #[] #[.pointer (some ⟨b15, 0, none⟩), .pointer (some ⟨b7, 0, none⟩)]] ∧ Blk (Wd.alloc (.cells #[.int .i64 b] 3)) b9 3 #[.int .i64 b])
 replace HL := hide (HL.out.trans (hb8.mono HL.out.size))
 clear hb8
 obtain ⟨bx, hbx⟩ : ∃ b, Wd.heap.size = b := ⟨_, rfl⟩
 rw [hbx] at HBX ⊢
 clear hbx
 generalize Wd.alloc (.cells #[.int .i64 b] 3) = w8 at HT HPd HL HBX ⊢
 dsimp only
 refine hKK _ _ (.both HT.out trivial) ?_
 clear hKK h2 h3 K o
 try simp only [pt, pn, sL]
 refine E_one 5 (by kernel_rfl) (StepE.of 5 (some 11) _ rfl (by rfl) fun o K h2 h3 hKK => ?_)
 unfold Oper.wp execOp
 simp only [h3]
 go_simp
 refine (then_no _ _).mono ?_
 rintro e w9 ⟨rfl, rfl⟩
 dsimp only
 refine hKK _ _ (.both HT.out trivial) ?_
 clear hKK h2 h3 K o
 try simp only [pt, pn, sL]
 refine eg 6 (.int .i64 0) (.both HT.out trivial) ?_
 simp only [sL]
 refine eg 7 (.bool false) (.both HT.out trivial) ?_
 simp only [sL]
 refine eg 8 (.int .i64 0) (.both HT.out trivial) ?_
 simp only [sL]
 refine E_one 9 (by kernel_rfl) (StepE.assign 9 (some 3) _ (.int .i64 0) rfl (by rfl) (by rfl) (.both HT.out trivial) ?_)
 simp only [pt, pn, sL]
 refine E_one 10 (by kernel_rfl) (StepE.assign 10 (some 4) _ (.bool false) rfl (by rfl) (by rfl) (.both HT.out trivial) ?_)
 simp only [pt, pn, sL]
 refine E_one 11 (by kernel_rfl) (StepE.assign 11 (some 5) _ (.int .i64 0) rfl (by rfl) (by rfl) (.both HT.out trivial) ?_)
 simp only [pt, pn, sL]
 refine wpAnyE_done (by kernel_rfl) ?_ _
 go_wp2
 exact bodyPost_ret (v := .tuple #[.int .i64 0, .bool false, .int .i64 0]) (by simp [results, Tryz.results124, go_sem]) rfl ⟨rfl, HL.out⟩
set_option maxHeartbeats 8000000 in
theorem law5_yes (hE : OpE g op x a b c d lf rt tn sh b5 b6 b7 b8 b9 b15 b17 b18 b19 b20 b21 b22 b23 b24 F W) (hp : PoolAt W base F g p) (hbase : base ≤ W.heap.size) (hx : x = 8 ∨ x = 16 ∨ x = 32 ∨ x = 64) (hn : I64 b) (hr : zextF f p x b = some r) (hf : (op == 11) = true) :
  Calls Tryz.prog 124 #[.pointer (some ⟨b6, 0, none⟩), .pointer (some ⟨b22, 0, none⟩), .pointer (some ⟨b9, 0, none⟩)] W (fun e w' => ∃ n m, e = .returned (.tuple #[.int .i64 n, .bool true, .int .i64 m]) ∧ RR base g F W r n m w') := by
 have HB := hide hbase
 have HR := hide hr
 have HX := hide hx
 have HN := hide hn
 clear hx hn
 clear hbase hr
 skip
 have HE := hide hE
 have HP := hide hp
 have HP0 := hide (PG.refl hp)
 have HL0 := hide (Below.refl W.heap.size W)
 clear hE hp
 go_enter Tryz.func124, Tryz.ntmps124
 go_upto_region 1 with fail
 refine wp_region_E (fun w' => Blk w' b6 30 #[.int .i8 op] ∧ Blk w' b22 179 #[.func (.func 116) #[] #[.pointer (some ⟨b15, 0, none⟩), .pointer (some ⟨b7, 0, none⟩)]] ∧ Blk w' b9 3 #[.int .i64 b]) (fun _ => True) [] (by kernel_rfl) ?_
 have HPd := hide (HP0.out.step ((Below.refl _ _).drew))
 have HL := hide (HL0.out.trans (((Below.refl _ _).drew).mono HL0.out.size))
 have HT := hide (⟨(HPd.out.blk HE.out.e6.1 HE.out.e6.2).1, (HPd.out.blk HE.out.e22.1 HE.out.e22.2).1, (HPd.out.blk HE.out.e9.1 HE.out.e9.2).1⟩ : Blk W.drew b6 30 #[.int .i8 op] ∧ Blk W.drew b22 179 #[.func (.func 116) #[] #[.pointer (some ⟨b15, 0, none⟩), .pointer (some ⟨b7, 0, none⟩)]] ∧ Blk W.drew b9 3 #[.int .i64 b])
 clear HP0 HL0
 generalize W.drew = Wd at HT HPd HL ⊢
 refine el false 0 ⟨b6, 0, none⟩ (.int .i8 op) Tryz.underlying30 (fun w hS => (hS.1.1.cell 0)) (.both HT.out trivial) ?_
 simp only [sL]
 refine eg 1 (.bool true) (.both HT.out trivial) ?_
 simp only [sL]
 refine E_load1 false 2 (some 8) 179 _ ⟨b22, 0, none⟩ (.func (.func 116) #[] #[.pointer (some ⟨b15, 0, none⟩), .pointer (some ⟨b7, 0, none⟩)]) rfl (by kernel_rfl) (by rfl) (fun _ _ _ h => h) (by rfl) (fun w hS => run_loadVar_one _ _ _ _ Tryz.underlying179 rfl (hS.1.2.1.cell 0)) (.both HT.out trivial) ?_
 simp only [pt, pn, sL]
 refine el false 3 ⟨b9, 0, none⟩ (.int .i64 b) Tryz.underlying3 (fun w hS => (hS.1.2.2.cell 0)) (.both HT.out trivial) ?_
 simp only [sL]
 refine E_one 4 (by kernel_rfl) (StepE.of 4 (some 10) _ rfl (by rfl) fun o K h2 h3 hKK => ?_)
 unfold Oper.wp execOp
 simp only [h3]
 go_simp
 refine (as_any _ _ _ _).mono ?_
 rintro e w8 ⟨rfl, rfl⟩
 have hb8 : Below Wd.heap.size Wd (Wd.alloc (.cells #[.int .i64 b] 3)) := (Below.refl _ _).alloc (Nat.le_refl _) _
 have HBX := hide (Blk.new Wd 3 #[.int .i64 b])
 replace HPd := hide (HPd.out.step hb8)
 replace HT := hide (⟨(HPd.out.blk HE.out.e6.1 HE.out.e6.2).1, (HPd.out.blk HE.out.e22.1 HE.out.e22.2).1, (HPd.out.blk HE.out.e9.1 HE.out.e9.2).1⟩ : Blk (Wd.alloc (.cells #[.int .i64 b] 3)) b6 30 #[.int .i8 op] ∧ Blk (Wd.alloc (.cells #[.int .i64 b] 3)) b22 179 #[.func (.func 116) #[] #[.pointer (some ⟨b15, 0, none⟩), .pointer (some ⟨b7, 0, none⟩)]] ∧ Blk (Wd.alloc (.cells #[.int .i64 b] 3)) b9 3 #[.int .i64 b])
 replace HL := hide (HL.out.trans (hb8.mono HL.out.size))
 clear hb8
 obtain ⟨bx, hbx⟩ : ∃ b, Wd.heap.size = b := ⟨_, rfl⟩
 rw [hbx] at HBX ⊢
 clear hbx
 generalize Wd.alloc (.cells #[.int .i64 b] 3) = w8 at HT HPd HL HBX ⊢
 dsimp only
 refine hKK _ _ (.both HT.out trivial) ?_
 clear hKK h2 h3 K o
 try simp only [pt, pn, sL]
 refine E_one 5 (by kernel_rfl) (StepE.of 5 (some 11) _ rfl (by rfl) fun o K h2 h3 hKK => ?_)
 unfold Oper.wp execOp
 simp only [h3]
 go_simp
 have H := as1_any (F := F) x _ HX.out HN.out f r HR.out b15 b7 bx w8 HPd.out.pool (Nat.le_trans HB.out HPd.out.size) (HPd.out.blk HE.out.e15.1 HE.out.e15.2).1 (HPd.out.blk HE.out.e7.1 HE.out.e7.2).1 HBX.out
 refine (then_yes 117 _ _ (RR base g F W r) enters2_1 (H.mono fun e w' q => RR.of (RetP.from HPd.out q))).mono ?_
 clear H
 rintro e w9 ⟨n, m, rfl, hrr⟩
 have HRR := hide hrr
 obtain ⟨_, _, F9, h9⟩ := hrr
 replace HT := hide (⟨(h9.blk HE.out.e6.1 HE.out.e6.2).1, (h9.blk HE.out.e22.1 HE.out.e22.2).1, (h9.blk HE.out.e9.1 HE.out.e9.2).1⟩ : Blk w9 b6 30 #[.int .i8 op] ∧ Blk w9 b22 179 #[.func (.func 116) #[] #[.pointer (some ⟨b15, 0, none⟩), .pointer (some ⟨b7, 0, none⟩)]] ∧ Blk w9 b9 3 #[.int .i64 b])
 clear h9 HBX HPd HL
 dsimp only
 refine hKK _ _ (.both HT.out trivial) ?_
 clear hKK h2 h3 K o
 try simp only [pt, pn, sL]
 refine eg 6 (.int .i64 n) (.both HT.out trivial) ?_
 simp only [sL]
 refine eg 7 (.bool true) (.both HT.out trivial) ?_
 simp only [sL]
 refine eg 8 (.int .i64 m) (.both HT.out trivial) ?_
 simp only [sL]
 refine E_one 9 (by kernel_rfl) (StepE.assign 9 (some 3) _ (.int .i64 n) rfl (by rfl) (by rfl) (.both HT.out trivial) ?_)
 simp only [pt, pn, sL]
 refine E_one 10 (by kernel_rfl) (StepE.assign 10 (some 4) _ (.bool true) rfl (by rfl) (by rfl) (.both HT.out trivial) ?_)
 simp only [pt, pn, sL]
 refine E_one 11 (by kernel_rfl) (StepE.assign 11 (some 5) _ (.int .i64 m) rfl (by rfl) (by rfl) (.both HT.out trivial) ?_)
 simp only [pt, pn, sL]
 refine wpAnyE_done (by kernel_rfl) ?_ _
 go_wp2
 exact bodyPost_ret (v := .tuple #[.int .i64 n, .bool true, .int .i64 m]) (by simp [results, Tryz.results124, go_sem]) rfl ⟨n, m, rfl, HRR.out⟩
set_option maxHeartbeats 8000000 in
theorem law10_no (hE : OpE g op x a b c d lf rt tn sh b5 b6 b7 b8 b9 b15 b17 b18 b19 b20 b21 b22 b23 b24 F W) (hp : PoolAt W base F g p) (hf : (rt && nilB op d) = false) :
  Calls Tryz.prog 133 #[.pointer (some ⟨b20, 0, none⟩), .pointer (some ⟨b19, 0, none⟩), .pointer (some ⟨b6, 0, none⟩), .pointer (some ⟨b21, 0, none⟩)] W (fun e w' => e = .returned (.tuple #[.int .i64 0, .bool false, .int .i64 0]) ∧ Below W.heap.size W w') := by
 cases rt
 ·clear hf
  have HE := hide hE
  have HP := hide hp
  have HP0 := hide (PG.refl hp)
  have HL0 := hide (Below.refl W.heap.size W)
  clear hE hp
  go_enter Tryz.func133, Tryz.ntmps133
  go_upto_region 1 with fail
  refine wp_region_E (fun w' => Blk w' b20 4 #[.bool false] ∧ Blk w' b19 31 #[.int .u64 d] ∧ Blk w' b6 30 #[.int .i8 op] ∧ Blk w' b21 177 #[.func (.func 114) #[] #[.pointer (some ⟨b5, 0, none⟩)]]) (fun _ => True) [] (by kernel_rfl) ?_
  have HPd := hide (HP0.out.step ((Below.refl _ _).drew))
  have HL := hide (HL0.out.trans (((Below.refl _ _).drew).mono HL0.out.size))
  have HT := hide (⟨(HPd.out.blk HE.out.e20.1 HE.out.e20.2).1, (HPd.out.blk HE.out.e19.1 HE.out.e19.2).1, (HPd.out.blk HE.out.e6.1 HE.out.e6.2).1, (HPd.out.blk HE.out.e21.1 HE.out.e21.2).1⟩ : Blk W.drew b20 4 #[.bool false] ∧ Blk W.drew b19 31 #[.int .u64 d] ∧ Blk W.drew b6 30 #[.int .i8 op] ∧ Blk W.drew b21 177 #[.func (.func 114) #[] #[.pointer (some ⟨b5, 0, none⟩)]])
  clear HP0 HL0
  generalize W.drew = Wd at HT HPd HL ⊢
  refine el false 0 ⟨b20, 0, none⟩ (.bool false) Tryz.underlying4 (fun w hS => (hS.1.1.cell 0)) (.both HT.out trivial) ?_
  simp only [sL]
  refine em 1 (.bool false) (.both HT.out trivial) ?_
  simp only [sL]
  refine en 2 (.both HT.out trivial) ?_
  simp only [sL]
  refine en 3 (.both HT.out trivial) ?_
  simp only [sL]
  refine ep 4 false (.bool false) (.both HT.out trivial) ?_
  simp only [sL]
  refine em 5 (.bool false) (.both HT.out trivial) ?_
  simp only [sL]
  refine en 6 (.both HT.out trivial) ?_
  simp only [sL]
  refine en 7 (.both HT.out trivial) ?_
  simp only [sL]
  refine en 8 (.both HT.out trivial) ?_
  simp only [sL]
  refine en 9 (.both HT.out trivial) ?_
  simp only [sL]
  refine en 10 (.both HT.out trivial) ?_
  simp only [sL]
  refine en 11 (.both HT.out trivial) ?_
  simp only [sL]
  refine en 12 (.both HT.out trivial) ?_
  simp only [sL]
  refine en 13 (.both HT.out trivial) ?_
  simp only [sL]
  refine en 14 (.both HT.out trivial) ?_
  simp only [sL]
  refine en 15 (.both HT.out trivial) ?_
  simp only [sL]
  refine ep 16 false (.bool false) (.both HT.out trivial) ?_
  simp only [sL]
  refine E_load1 false 17 (some 24) 177 _ ⟨b21, 0, none⟩ (.func (.func 114) #[] #[.pointer (some ⟨b5, 0, none⟩)]) rfl (by kernel_rfl) (by rfl) (fun _ _ _ h => h) (by rfl) (fun w hS => run_loadVar_one _ _ _ _ Tryz.underlying177 rfl (hS.1.2.2.2.cell 0)) (.both HT.out trivial) ?_
  simp only [pt, pn, sL]
  refine E_one 18 (by kernel_rfl) (StepE.of 18 (some 25) _ rfl (by rfl) fun o K h2 h3 hKK => ?_)
  unfold Oper.wp execOp
  simp only [h3]
  go_simp
  refine (number_any _ _ _).mono ?_
  rintro e w8 ⟨rfl, rfl⟩
  have hb8 : Below Wd.heap.size Wd (Wd.alloc (.cells #[.int .u64 0] 31)) := (Below.refl _ _).alloc (Nat.le_refl _) _
  have HBX := hide (Blk.new Wd 31 #[.int .u64 0])
  replace HPd := hide (HPd.out.step hb8)
  replace HT := hide (⟨(HPd.out.blk HE.out.e20.1 HE.out.e20.2).1, (HPd.out.blk HE.out.e19.1 HE.out.e19.2).1, (HPd.out.blk HE.out.e6.1 HE.out.e6.2).1, (HPd.out.blk HE.out.e21.1 HE.out.e21.2).1⟩ : Blk (Wd.alloc (.cells #[.int .u64 0] 31)) b20 4 #[.bool false] ∧ Blk (Wd.alloc (.cells #[.int .u64 0] 31)) b19 31 #[.int .u64 d] ∧ Blk (Wd.alloc (.cells #[.int .u64 0] 31)) b6 30 #[.int .i8 op] ∧ Blk (Wd.alloc (.cells #[.int .u64 0] 31)) b21 177 #[.func (.func 114) #[] #[.pointer (some ⟨b5, 0, none⟩)]])
  replace HL := hide (HL.out.trans (hb8.mono HL.out.size))
  clear hb8
  obtain ⟨bx, hbx⟩ : ∃ b, Wd.heap.size = b := ⟨_, rfl⟩
  rw [hbx] at HBX ⊢
  clear hbx
  generalize Wd.alloc (.cells #[.int .u64 0] 31) = w8 at HT HPd HL HBX ⊢
  dsimp only
  refine hKK _ _ (.both HT.out trivial) ?_
  clear hKK h2 h3 K o
  try simp only [pt, pn, sL]
  refine E_one 19 (by kernel_rfl) (StepE.of 19 (some 26) _ rfl (by rfl) fun o K h2 h3 hKK => ?_)
  unfold Oper.wp execOp
  simp only [h3]
  go_simp
  refine (then_no _ _).mono ?_
  rintro e w9 ⟨rfl, rfl⟩
  dsimp only
  refine hKK _ _ (.both HT.out trivial) ?_
  clear hKK h2 h3 K o
  try simp only [pt, pn, sL]
  refine eg 20 (.int .i64 0) (.both HT.out trivial) ?_
  simp only [sL]
  refine eg 21 (.bool false) (.both HT.out trivial) ?_
  simp only [sL]
  refine eg 22 (.int .i64 0) (.both HT.out trivial) ?_
  simp only [sL]
  refine E_one 23 (by kernel_rfl) (StepE.assign 23 (some 4) _ (.int .i64 0) rfl (by rfl) (by rfl) (.both HT.out trivial) ?_)
  simp only [pt, pn, sL]
  refine E_one 24 (by kernel_rfl) (StepE.assign 24 (some 5) _ (.bool false) rfl (by rfl) (by rfl) (.both HT.out trivial) ?_)
  simp only [pt, pn, sL]
  refine E_one 25 (by kernel_rfl) (StepE.assign 25 (some 6) _ (.int .i64 0) rfl (by rfl) (by rfl) (.both HT.out trivial) ?_)
  simp only [pt, pn, sL]
  refine wpAnyE_done (by kernel_rfl) ?_ _
  go_wp2
  exact bodyPost_ret (v := .tuple #[.int .i64 0, .bool false, .int .i64 0]) (by simp [results, Tryz.results133, go_sem]) rfl ⟨rfl, HL.out⟩
 ·have hq : nilB op d = false := by simpa using hf
  clear hf
  cases hd : (d == 0)
  ·clear hq
   have HE := hide hE
   have HP := hide hp
   have HP0 := hide (PG.refl hp)
   have HL0 := hide (Below.refl W.heap.size W)
   clear hE hp
   go_enter Tryz.func133, Tryz.ntmps133
   go_upto_region 1 with fail
   refine wp_region_E (fun w' => Blk w' b20 4 #[.bool true] ∧ Blk w' b19 31 #[.int .u64 d] ∧ Blk w' b6 30 #[.int .i8 op] ∧ Blk w' b21 177 #[.func (.func 114) #[] #[.pointer (some ⟨b5, 0, none⟩)]]) (fun _ => True) [] (by kernel_rfl) ?_
   have HPd := hide (HP0.out.step ((Below.refl _ _).drew))
   have HL := hide (HL0.out.trans (((Below.refl _ _).drew).mono HL0.out.size))
   have HT := hide (⟨(HPd.out.blk HE.out.e20.1 HE.out.e20.2).1, (HPd.out.blk HE.out.e19.1 HE.out.e19.2).1, (HPd.out.blk HE.out.e6.1 HE.out.e6.2).1, (HPd.out.blk HE.out.e21.1 HE.out.e21.2).1⟩ : Blk W.drew b20 4 #[.bool true] ∧ Blk W.drew b19 31 #[.int .u64 d] ∧ Blk W.drew b6 30 #[.int .i8 op] ∧ Blk W.drew b21 177 #[.func (.func 114) #[] #[.pointer (some ⟨b5, 0, none⟩)]])
   clear HP0 HL0
   generalize W.drew = Wd at HT HPd HL ⊢
   refine el false 0 ⟨b20, 0, none⟩ (.bool true) Tryz.underlying4 (fun w hS => (hS.1.1.cell 0)) (.both HT.out trivial) ?_
   simp only [sL]
   refine em 1 (.bool true) (.both HT.out trivial) ?_
   simp only [sL]
   refine el false 2 ⟨b19, 0, none⟩ (.int .u64 d) Tryz.underlying31 (fun w hS => (hS.1.2.1.cell 0)) (.both HT.out trivial) ?_
   simp only [sL]
   refine eg 3 (.bool false) (.both HT.out trivial) ?_
   simp only [sL]
   refine ep 4 true (.bool false) (.both HT.out trivial) ?_
   simp only [sL]
   refine em 5 (.bool false) (.both HT.out trivial) ?_
   simp only [sL]
   refine en 6 (.both HT.out trivial) ?_
   simp only [sL]
   refine en 7 (.both HT.out trivial) ?_
   simp only [sL]
   refine en 8 (.both HT.out trivial) ?_
   simp only [sL]
   refine en 9 (.both HT.out trivial) ?_
   simp only [sL]
   refine en 10 (.both HT.out trivial) ?_
   simp only [sL]
   refine en 11 (.both HT.out trivial) ?_
   simp only [sL]
   refine en 12 (.both HT.out trivial) ?_
   simp only [sL]
   refine en 13 (.both HT.out trivial) ?_
   simp only [sL]
   refine en 14 (.both HT.out trivial) ?_
   simp only [sL]
   refine en 15 (.both HT.out trivial) ?_
   simp only [sL]
   refine ep 16 false (.bool false) (.both HT.out trivial) ?_
   simp only [sL]
   refine E_load1 false 17 (some 24) 177 _ ⟨b21, 0, none⟩ (.func (.func 114) #[] #[.pointer (some ⟨b5, 0, none⟩)]) rfl (by kernel_rfl) (by rfl) (fun _ _ _ h => h) (by rfl) (fun w hS => run_loadVar_one _ _ _ _ Tryz.underlying177 rfl (hS.1.2.2.2.cell 0)) (.both HT.out trivial) ?_
   simp only [pt, pn, sL]
   refine E_one 18 (by kernel_rfl) (StepE.of 18 (some 25) _ rfl (by rfl) fun o K h2 h3 hKK => ?_)
   unfold Oper.wp execOp
   simp only [h3]
   go_simp
   refine (number_any _ _ _).mono ?_
   rintro e w8 ⟨rfl, rfl⟩
   have hb8 : Below Wd.heap.size Wd (Wd.alloc (.cells #[.int .u64 0] 31)) := (Below.refl _ _).alloc (Nat.le_refl _) _
   have HBX := hide (Blk.new Wd 31 #[.int .u64 0])
   replace HPd := hide (HPd.out.step hb8)
   replace HT := hide (⟨(HPd.out.blk HE.out.e20.1 HE.out.e20.2).1, (HPd.out.blk HE.out.e19.1 HE.out.e19.2).1, (HPd.out.blk HE.out.e6.1 HE.out.e6.2).1, (HPd.out.blk HE.out.e21.1 HE.out.e21.2).1⟩ : Blk (Wd.alloc (.cells #[.int .u64 0] 31)) b20 4 #[.bool true] ∧ Blk (Wd.alloc (.cells #[.int .u64 0] 31)) b19 31 #[.int .u64 d] ∧ Blk (Wd.alloc (.cells #[.int .u64 0] 31)) b6 30 #[.int .i8 op] ∧ Blk (Wd.alloc (.cells #[.int .u64 0] 31)) b21 177 #[.func (.func 114) #[] #[.pointer (some ⟨b5, 0, none⟩)]])
   replace HL := hide (HL.out.trans (hb8.mono HL.out.size))
   clear hb8
   obtain ⟨bx, hbx⟩ : ∃ b, Wd.heap.size = b := ⟨_, rfl⟩
   rw [hbx] at HBX ⊢
   clear hbx
   generalize Wd.alloc (.cells #[.int .u64 0] 31) = w8 at HT HPd HL HBX ⊢
   dsimp only
   refine hKK _ _ (.both HT.out trivial) ?_
   clear hKK h2 h3 K o
   try simp only [pt, pn, sL]
   refine E_one 19 (by kernel_rfl) (StepE.of 19 (some 26) _ rfl (by rfl) fun o K h2 h3 hKK => ?_)
   unfold Oper.wp execOp
   simp only [h3]
   go_simp
   refine (then_no _ _).mono ?_
   rintro e w9 ⟨rfl, rfl⟩
   dsimp only
   refine hKK _ _ (.both HT.out trivial) ?_
   clear hKK h2 h3 K o
   try simp only [pt, pn, sL]
   refine eg 20 (.int .i64 0) (.both HT.out trivial) ?_
   simp only [sL]
   refine eg 21 (.bool false) (.both HT.out trivial) ?_
   simp only [sL]
   refine eg 22 (.int .i64 0) (.both HT.out trivial) ?_
   simp only [sL]
   refine E_one 23 (by kernel_rfl) (StepE.assign 23 (some 4) _ (.int .i64 0) rfl (by rfl) (by rfl) (.both HT.out trivial) ?_)
   simp only [pt, pn, sL]
   refine E_one 24 (by kernel_rfl) (StepE.assign 24 (some 5) _ (.bool false) rfl (by rfl) (by rfl) (.both HT.out trivial) ?_)
   simp only [pt, pn, sL]
   refine E_one 25 (by kernel_rfl) (StepE.assign 25 (some 6) _ (.int .i64 0) rfl (by rfl) (by rfl) (.both HT.out trivial) ?_)
   simp only [pt, pn, sL]
   refine wpAnyE_done (by kernel_rfl) ?_ _
   go_wp2
   exact bodyPost_ret (v := .tuple #[.int .i64 0, .bool false, .int .i64 0]) (by simp [results, Tryz.results133, go_sem]) rfl ⟨rfl, HL.out⟩
  ·have h2 : (op == 2) = false := by revert hq; unfold nilB; rw [hd]; cases (op == 2) <;> simp
   have h5 : (op == 5) = false := by revert hq; unfold nilB; rw [hd]; cases (op == 5) <;> simp
   have h3 : (op == 3) = false := by revert hq; unfold nilB; rw [hd]; cases (op == 3) <;> simp
   clear hq
   have HE := hide hE
   have HP := hide hp
   have HP0 := hide (PG.refl hp)
   have HL0 := hide (Below.refl W.heap.size W)
   clear hE hp
   go_enter Tryz.func133, Tryz.ntmps133
   go_upto_region 1 with fail
   refine wp_region_E (fun w' => Blk w' b20 4 #[.bool true] ∧ Blk w' b19 31 #[.int .u64 d] ∧ Blk w' b6 30 #[.int .i8 op] ∧ Blk w' b21 177 #[.func (.func 114) #[] #[.pointer (some ⟨b5, 0, none⟩)]]) (fun _ => True) [] (by kernel_rfl) ?_
   have HPd := hide (HP0.out.step ((Below.refl _ _).drew))
   have HL := hide (HL0.out.trans (((Below.refl _ _).drew).mono HL0.out.size))
   have HT := hide (⟨(HPd.out.blk HE.out.e20.1 HE.out.e20.2).1, (HPd.out.blk HE.out.e19.1 HE.out.e19.2).1, (HPd.out.blk HE.out.e6.1 HE.out.e6.2).1, (HPd.out.blk HE.out.e21.1 HE.out.e21.2).1⟩ : Blk W.drew b20 4 #[.bool true] ∧ Blk W.drew b19 31 #[.int .u64 d] ∧ Blk W.drew b6 30 #[.int .i8 op] ∧ Blk W.drew b21 177 #[.func (.func 114) #[] #[.pointer (some ⟨b5, 0, none⟩)]])
   clear HP0 HL0
   generalize W.drew = Wd at HT HPd HL ⊢
   refine el false 0 ⟨b20, 0, none⟩ (.bool true) Tryz.underlying4 (fun w hS => (hS.1.1.cell 0)) (.both HT.out trivial) ?_
   simp only [sL]
   refine em 1 (.bool true) (.both HT.out trivial) ?_
   simp only [sL]
   refine el false 2 ⟨b19, 0, none⟩ (.int .u64 d) Tryz.underlying31 (fun w hS => (hS.1.2.1.cell 0)) (.both HT.out trivial) ?_
   simp only [sL]
   refine eg 3 (.bool true) (.both HT.out trivial) ?_
   simp only [sL]
   refine ep 4 true (.bool true) (.both HT.out trivial) ?_
   simp only [sL]
   refine em 5 (.bool true) (.both HT.out trivial) ?_
   simp only [sL]
   refine el false 6 ⟨b6, 0, none⟩ (.int .i8 op) Tryz.underlying30 (fun w hS => (hS.1.2.2.1.cell 0)) (.both HT.out trivial) ?_
   simp only [sL]
   refine eg 7 (.bool false) (.both HT.out trivial) ?_
   simp only [sL]
   refine em 8 (.bool false) (.both HT.out trivial) ?_
   simp only [sL]
   refine el false 9 ⟨b6, 0, none⟩ (.int .i8 op) Tryz.underlying30 (fun w hS => (hS.1.2.2.1.cell 0)) (.both HT.out trivial) ?_
   simp only [sL]
   refine eg 10 (.bool false) (.both HT.out trivial) ?_
   simp only [sL]
   refine ep 11 false (.bool false) (.both HT.out trivial) ?_
   simp only [sL]
   refine em 12 (.bool false) (.both HT.out trivial) ?_
   simp only [sL]
   refine el false 13 ⟨b6, 0, none⟩ (.int .i8 op) Tryz.underlying30 (fun w hS => (hS.1.2.2.1.cell 0)) (.both HT.out trivial) ?_
   simp only [sL]
   refine eg 14 (.bool false) (.both HT.out trivial) ?_
   simp only [sL]
   refine ep 15 false (.bool false) (.both HT.out trivial) ?_
   simp only [sL]
   refine ep 16 true (.bool false) (.both HT.out trivial) ?_
   simp only [sL]
   refine E_load1 false 17 (some 24) 177 _ ⟨b21, 0, none⟩ (.func (.func 114) #[] #[.pointer (some ⟨b5, 0, none⟩)]) rfl (by kernel_rfl) (by rfl) (fun _ _ _ h => h) (by rfl) (fun w hS => run_loadVar_one _ _ _ _ Tryz.underlying177 rfl (hS.1.2.2.2.cell 0)) (.both HT.out trivial) ?_
   simp only [pt, pn, sL]
   refine E_one 18 (by kernel_rfl) (StepE.of 18 (some 25) _ rfl (by rfl) fun o K h2 h3 hKK => ?_)
   unfold Oper.wp execOp
   simp only [h3]
   go_simp
   refine (number_any _ _ _).mono ?_
   rintro e w8 ⟨rfl, rfl⟩
   have hb8 : Below Wd.heap.size Wd (Wd.alloc (.cells #[.int .u64 0] 31)) := (Below.refl _ _).alloc (Nat.le_refl _) _
   have HBX := hide (Blk.new Wd 31 #[.int .u64 0])
   replace HPd := hide (HPd.out.step hb8)
   replace HT := hide (⟨(HPd.out.blk HE.out.e20.1 HE.out.e20.2).1, (HPd.out.blk HE.out.e19.1 HE.out.e19.2).1, (HPd.out.blk HE.out.e6.1 HE.out.e6.2).1, (HPd.out.blk HE.out.e21.1 HE.out.e21.2).1⟩ : Blk (Wd.alloc (.cells #[.int .u64 0] 31)) b20 4 #[.bool true] ∧ Blk (Wd.alloc (.cells #[.int .u64 0] 31)) b19 31 #[.int .u64 d] ∧ Blk (Wd.alloc (.cells #[.int .u64 0] 31)) b6 30 #[.int .i8 op] ∧ Blk (Wd.alloc (.cells #[.int .u64 0] 31)) b21 177 #[.func (.func 114) #[] #[.pointer (some ⟨b5, 0, none⟩)]])
   replace HL := hide (HL.out.trans (hb8.mono HL.out.size))
   clear hb8
   obtain ⟨bx, hbx⟩ : ∃ b, Wd.heap.size = b := ⟨_, rfl⟩
   rw [hbx] at HBX ⊢
   clear hbx
   generalize Wd.alloc (.cells #[.int .u64 0] 31) = w8 at HT HPd HL HBX ⊢
   dsimp only
   refine hKK _ _ (.both HT.out trivial) ?_
   clear hKK h2 h3 K o
   try simp only [pt, pn, sL]
   refine E_one 19 (by kernel_rfl) (StepE.of 19 (some 26) _ rfl (by rfl) fun o K h2 h3 hKK => ?_)
   unfold Oper.wp execOp
   simp only [h3]
   go_simp
   refine (then_no _ _).mono ?_
   rintro e w9 ⟨rfl, rfl⟩
   dsimp only
   refine hKK _ _ (.both HT.out trivial) ?_
   clear hKK h2 h3 K o
   try simp only [pt, pn, sL]
   refine eg 20 (.int .i64 0) (.both HT.out trivial) ?_
   simp only [sL]
   refine eg 21 (.bool false) (.both HT.out trivial) ?_
   simp only [sL]
   refine eg 22 (.int .i64 0) (.both HT.out trivial) ?_
   simp only [sL]
   refine E_one 23 (by kernel_rfl) (StepE.assign 23 (some 4) _ (.int .i64 0) rfl (by rfl) (by rfl) (.both HT.out trivial) ?_)
   simp only [pt, pn, sL]
   refine E_one 24 (by kernel_rfl) (StepE.assign 24 (some 5) _ (.bool false) rfl (by rfl) (by rfl) (.both HT.out trivial) ?_)
   simp only [pt, pn, sL]
   refine E_one 25 (by kernel_rfl) (StepE.assign 25 (some 6) _ (.int .i64 0) rfl (by rfl) (by rfl) (.both HT.out trivial) ?_)
   simp only [pt, pn, sL]
   refine wpAnyE_done (by kernel_rfl) ?_ _
   go_wp2
   exact bodyPost_ret (v := .tuple #[.int .i64 0, .bool false, .int .i64 0]) (by simp [results, Tryz.results133, go_sem]) rfl ⟨rfl, HL.out⟩
set_option maxHeartbeats 8000000 in
theorem law10_yes (hE : OpE g op x a b c d lf rt tn sh b5 b6 b7 b8 b9 b15 b17 b18 b19 b20 b21 b22 b23 b24 F W) (hp : PoolAt W base F g p) (hbase : base ≤ W.heap.size) (hr : putR p (constT 0) = r) (hf : (rt && nilB op d) = true) :
  Calls Tryz.prog 133 #[.pointer (some ⟨b20, 0, none⟩), .pointer (some ⟨b19, 0, none⟩), .pointer (some ⟨b6, 0, none⟩), .pointer (some ⟨b21, 0, none⟩)] W (fun e w' => ∃ n m, e = .returned (.tuple #[.int .i64 n, .bool true, .int .i64 m]) ∧ RR base g F W r n m w') := by
 have HB := hide hbase
 have HR := hide hr
 clear hbase hr
 obtain rfl : rt = true := by revert hf; cases rt <;> simp
 have hq : nilB op d = true := by simpa using hf
 clear hf
 have hd : (d == 0) = true := by revert hq; unfold nilB; cases (d == 0) <;> simp
 cases h2 : (op == 2)
 ·cases h5 : (op == 5)
  ·have h3 : (op == 3) = true := by revert hq; unfold nilB; rw [h2, h5, hd]; simp
   clear hq
   have HE := hide hE
   have HP := hide hp
   have HP0 := hide (PG.refl hp)
   have HL0 := hide (Below.refl W.heap.size W)
   clear hE hp
   go_enter Tryz.func133, Tryz.ntmps133
   go_upto_region 1 with fail
   refine wp_region_E (fun w' => Blk w' b20 4 #[.bool true] ∧ Blk w' b19 31 #[.int .u64 d] ∧ Blk w' b6 30 #[.int .i8 op] ∧ Blk w' b21 177 #[.func (.func 114) #[] #[.pointer (some ⟨b5, 0, none⟩)]]) (fun _ => True) [] (by kernel_rfl) ?_
   have HPd := hide (HP0.out.step ((Below.refl _ _).drew))
   have HL := hide (HL0.out.trans (((Below.refl _ _).drew).mono HL0.out.size))
   have HT := hide (⟨(HPd.out.blk HE.out.e20.1 HE.out.e20.2).1, (HPd.out.blk HE.out.e19.1 HE.out.e19.2).1, (HPd.out.blk HE.out.e6.1 HE.out.e6.2).1, (HPd.out.blk HE.out.e21.1 HE.out.e21.2).1⟩ : Blk W.drew b20 4 #[.bool true] ∧ Blk W.drew b19 31 #[.int .u64 d] ∧ Blk W.drew b6 30 #[.int .i8 op] ∧ Blk W.drew b21 177 #[.func (.func 114) #[] #[.pointer (some ⟨b5, 0, none⟩)]])
   clear HP0 HL0
   generalize W.drew = Wd at HT HPd HL ⊢
   refine el false 0 ⟨b20, 0, none⟩ (.bool true) Tryz.underlying4 (fun w hS => (hS.1.1.cell 0)) (.both HT.out trivial) ?_
   simp only [sL]
   refine em 1 (.bool true) (.both HT.out trivial) ?_
   simp only [sL]
   refine el false 2 ⟨b19, 0, none⟩ (.int .u64 d) Tryz.underlying31 (fun w hS => (hS.1.2.1.cell 0)) (.both HT.out trivial) ?_
   simp only [sL]
   refine eg 3 (.bool true) (.both HT.out trivial) ?_
   simp only [sL]
   refine ep 4 true (.bool true) (.both HT.out trivial) ?_
   simp only [sL]
   refine em 5 (.bool true) (.both HT.out trivial) ?_
   simp only [sL]
   refine el false 6 ⟨b6, 0, none⟩ (.int .i8 op) Tryz.underlying30 (fun w hS => (hS.1.2.2.1.cell 0)) (.both HT.out trivial) ?_
   simp only [sL]
   refine eg 7 (.bool false) (.both HT.out trivial) ?_
   simp only [sL]
   refine em 8 (.bool false) (.both HT.out trivial) ?_
   simp only [sL]
   refine el false 9 ⟨b6, 0, none⟩ (.int .i8 op) Tryz.underlying30 (fun w hS => (hS.1.2.2.1.cell 0)) (.both HT.out trivial) ?_
   simp only [sL]
   refine eg 10 (.bool false) (.both HT.out trivial) ?_
   simp only [sL]
   refine ep 11 false (.bool false) (.both HT.out trivial) ?_
   simp only [sL]
   refine em 12 (.bool false) (.both HT.out trivial) ?_
   simp only [sL]
   refine el false 13 ⟨b6, 0, none⟩ (.int .i8 op) Tryz.underlying30 (fun w hS => (hS.1.2.2.1.cell 0)) (.both HT.out trivial) ?_
   simp only [sL]
   refine eg 14 (.bool true) (.both HT.out trivial) ?_
   simp only [sL]
   refine ep 15 false (.bool true) (.both HT.out trivial) ?_
   simp only [sL]
   refine ep 16 true (.bool true) (.both HT.out trivial) ?_
   simp only [sL]
   refine E_load1 false 17 (some 24) 177 _ ⟨b21, 0, none⟩ (.func (.func 114) #[] #[.pointer (some ⟨b5, 0, none⟩)]) rfl (by kernel_rfl) (by rfl) (fun _ _ _ h => h) (by rfl) (fun w hS => run_loadVar_one _ _ _ _ Tryz.underlying177 rfl (hS.1.2.2.2.cell 0)) (.both HT.out trivial) ?_
   simp only [pt, pn, sL]
   refine E_one 18 (by kernel_rfl) (StepE.of 18 (some 25) _ rfl (by rfl) fun o K h2 h3 hKK => ?_)
   unfold Oper.wp execOp
   simp only [h3]
   go_simp
   refine (number_any _ _ _).mono ?_
   rintro e w8 ⟨rfl, rfl⟩
   have hb8 : Below Wd.heap.size Wd (Wd.alloc (.cells #[.int .u64 0] 31)) := (Below.refl _ _).alloc (Nat.le_refl _) _
   have HBX := hide (Blk.new Wd 31 #[.int .u64 0])
   replace HPd := hide (HPd.out.step hb8)
   replace HT := hide (⟨(HPd.out.blk HE.out.e20.1 HE.out.e20.2).1, (HPd.out.blk HE.out.e19.1 HE.out.e19.2).1, (HPd.out.blk HE.out.e6.1 HE.out.e6.2).1, (HPd.out.blk HE.out.e21.1 HE.out.e21.2).1⟩ : Blk (Wd.alloc (.cells #[.int .u64 0] 31)) b20 4 #[.bool true] ∧ Blk (Wd.alloc (.cells #[.int .u64 0] 31)) b19 31 #[.int .u64 d] ∧ Blk (Wd.alloc (.cells #[.int .u64 0] 31)) b6 30 #[.int .i8 op] ∧ Blk (Wd.alloc (.cells #[.int .u64 0] 31)) b21 177 #[.func (.func 114) #[] #[.pointer (some ⟨b5, 0, none⟩)]])
   replace HL := hide (HL.out.trans (hb8.mono HL.out.size))
   clear hb8
   obtain ⟨bx, hbx⟩ : ∃ b, Wd.heap.size = b := ⟨_, rfl⟩
   rw [hbx] at HBX ⊢
   clear hbx
   generalize Wd.alloc (.cells #[.int .u64 0] 31) = w8 at HT HPd HL HBX ⊢
   dsimp only
   refine hKK _ _ (.both HT.out trivial) ?_
   clear hKK h2 h3 K o
   try simp only [pt, pn, sL]
   refine E_one 19 (by kernel_rfl) (StepE.of 19 (some 26) _ rfl (by rfl) fun o K h2 h3 hKK => ?_)
   unfold Oper.wp execOp
   simp only [h3]
   go_simp
   have H := number1_any (F := F) _ zero_u64 b5 bx w8 HPd.out.pool (Nat.le_trans HB.out HPd.out.size) (HPd.out.blk HE.out.e5.1 HE.out.e5.2).1 HBX.out
   rw [HR.out] at H
   refine (then_yes 115 _ _ (RR base g F W r) enters1_1 (H.mono fun e w' q => RR.of (RetP.from HPd.out q))).mono ?_
   clear H
   rintro e w9 ⟨n, m, rfl, hrr⟩
   have HRR := hide hrr
   obtain ⟨_, _, F9, h9⟩ := hrr
   replace HT := hide (⟨(h9.blk HE.out.e20.1 HE.out.e20.2).1, (h9.blk HE.out.e19.1 HE.out.e19.2).1, (h9.blk HE.out.e6.1 HE.out.e6.2).1, (h9.blk HE.out.e21.1 HE.out.e21.2).1⟩ : Blk w9 b20 4 #[.bool true] ∧ Blk w9 b19 31 #[.int .u64 d] ∧ Blk w9 b6 30 #[.int .i8 op] ∧ Blk w9 b21 177 #[.func (.func 114) #[] #[.pointer (some ⟨b5, 0, none⟩)]])
   clear h9 HBX HPd HL
   dsimp only
   refine hKK _ _ (.both HT.out trivial) ?_
   clear hKK h2 h3 K o
   try simp only [pt, pn, sL]
   refine eg 20 (.int .i64 n) (.both HT.out trivial) ?_
   simp only [sL]
   refine eg 21 (.bool true) (.both HT.out trivial) ?_
   simp only [sL]
   refine eg 22 (.int .i64 m) (.both HT.out trivial) ?_
   simp only [sL]
   refine E_one 23 (by kernel_rfl) (StepE.assign 23 (some 4) _ (.int .i64 n) rfl (by rfl) (by rfl) (.both HT.out trivial) ?_)
   simp only [pt, pn, sL]
   refine E_one 24 (by kernel_rfl) (StepE.assign 24 (some 5) _ (.bool true) rfl (by rfl) (by rfl) (.both HT.out trivial) ?_)
   simp only [pt, pn, sL]
   refine E_one 25 (by kernel_rfl) (StepE.assign 25 (some 6) _ (.int .i64 m) rfl (by rfl) (by rfl) (.both HT.out trivial) ?_)
   simp only [pt, pn, sL]
   refine wpAnyE_done (by kernel_rfl) ?_ _
   go_wp2
   exact bodyPost_ret (v := .tuple #[.int .i64 n, .bool true, .int .i64 m]) (by simp [results, Tryz.results133, go_sem]) rfl ⟨n, m, rfl, HRR.out⟩
  ·clear hq
   have HE := hide hE
   have HP := hide hp
   have HP0 := hide (PG.refl hp)
   have HL0 := hide (Below.refl W.heap.size W)
   clear hE hp
   go_enter Tryz.func133, Tryz.ntmps133
   go_upto_region 1 with fail
   refine wp_region_E (fun w' => Blk w' b20 4 #[.bool true] ∧ Blk w' b19 31 #[.int .u64 d] ∧ Blk w' b6 30 #[.int .i8 op] ∧ Blk w' b21 177 #[.func (.func 114) #[] #[.pointer (some ⟨b5, 0, none⟩)]]) (fun _ => True) [] (by kernel_rfl) ?_
   have HPd := hide (HP0.out.step ((Below.refl _ _).drew))
   have HL := hide (HL0.out.trans (((Below.refl _ _).drew).mono HL0.out.size))
   have HT := hide (⟨(HPd.out.blk HE.out.e20.1 HE.out.e20.2).1, (HPd.out.blk HE.out.e19.1 HE.out.e19.2).1, (HPd.out.blk HE.out.e6.1 HE.out.e6.2).1, (HPd.out.blk HE.out.e21.1 HE.out.e21.2).1⟩ : Blk W.drew b20 4 #[.bool true] ∧ Blk W.drew b19 31 #[.int .u64 d] ∧ Blk W.drew b6 30 #[.int .i8 op] ∧ Blk W.drew b21 177 #[.func (.func 114) #[] #[.pointer (some ⟨b5, 0, none⟩)]])
   clear HP0 HL0
   generalize W.drew = Wd at HT HPd HL ⊢
   refine el false 0 ⟨b20, 0, none⟩ (.bool true) Tryz.underlying4 (fun w hS => (hS.1.1.cell 0)) (.both HT.out trivial) ?_
   simp only [sL]
   refine em 1 (.bool true) (.both HT.out trivial) ?_
   simp only [sL]
   refine el false 2 ⟨b19, 0, none⟩ (.int .u64 d) Tryz.underlying31 (fun w hS => (hS.1.2.1.cell 0)) (.both HT.out trivial) ?_
   simp only [sL]
   refine eg 3 (.bool true) (.both HT.out trivial) ?_
   simp only [sL]
   refine ep 4 true (.bool true) (.both HT.out trivial) ?_
   simp only [sL]
   refine em 5 (.bool true) (.both HT.out trivial) ?_
   simp only [sL]
   refine el false 6 ⟨b6, 0, none⟩ (.int .i8 op) Tryz.underlying30 (fun w hS => (hS.1.2.2.1.cell 0)) (.both HT.out trivial) ?_
   simp only [sL]
   refine eg 7 (.bool false) (.both HT.out trivial) ?_
   simp only [sL]
   refine em 8 (.bool false) (.both HT.out trivial) ?_
   simp only [sL]
   refine el false 9 ⟨b6, 0, none⟩ (.int .i8 op) Tryz.underlying30 (fun w hS => (hS.1.2.2.1.cell 0)) (.both HT.out trivial) ?_
   simp only [sL]
   refine eg 10 (.bool true) (.both HT.out trivial) ?_
   simp only [sL]
   refine ep 11 false (.bool true) (.both HT.out trivial) ?_
   simp only [sL]
   refine em 12 (.bool true) (.both HT.out trivial) ?_
   simp only [sL]
   refine en 13 (.both HT.out trivial) ?_
   simp only [sL]
   refine en 14 (.both HT.out trivial) ?_
   simp only [sL]
   refine ep 15 true (.bool true) (.both HT.out trivial) ?_
   simp only [sL]
   refine ep 16 true (.bool true) (.both HT.out trivial) ?_
   simp only [sL]
   refine E_load1 false 17 (some 24) 177 _ ⟨b21, 0, none⟩ (.func (.func 114) #[] #[.pointer (some ⟨b5, 0, none⟩)]) rfl (by kernel_rfl) (by rfl) (fun _ _ _ h => h) (by rfl) (fun w hS => run_loadVar_one _ _ _ _ Tryz.underlying177 rfl (hS.1.2.2.2.cell 0)) (.both HT.out trivial) ?_
   simp only [pt, pn, sL]
   refine E_one 18 (by kernel_rfl) (StepE.of 18 (some 25) _ rfl (by rfl) fun o K h2 h3 hKK => ?_)
   unfold Oper.wp execOp
   simp only [h3]
   go_simp
   refine (number_any _ _ _).mono ?_
   rintro e w8 ⟨rfl, rfl⟩
   have hb8 : Below Wd.heap.size Wd (Wd.alloc (.cells #[.int .u64 0] 31)) := (Below.refl _ _).alloc (Nat.le_refl _) _
   have HBX := hide (Blk.new Wd 31 #[.int .u64 0])
   replace HPd := hide (HPd.out.step hb8)
   replace HT := hide (⟨(HPd.out.blk HE.out.e20.1 HE.out.e20.2).1, (HPd.out.blk HE.out.e19.1 HE.out.e19.2).1, (HPd.out.blk HE.out.e6.1 HE.out.e6.2).1, (HPd.out.blk HE.out.e21.1 HE.out.e21.2).1⟩ : Blk (Wd.alloc (.cells #[.int .u64 0] 31)) b20 4 #[.bool true] ∧ Blk (Wd.alloc (.cells #[.int .u64 0] 31)) b19 31 #[.int .u64 d] ∧ Blk (Wd.alloc (.cells #[.int .u64 0] 31)) b6 30 #[.int .i8 op] ∧ Blk (Wd.alloc (.cells #[.int .u64 0] 31)) b21 177 #[.func (.func 114) #[] #[.pointer (some ⟨b5, 0, none⟩)]])
   replace HL := hide (HL.out.trans (hb8.mono HL.out.size))
   clear hb8
   obtain ⟨bx, hbx⟩ : ∃ b, Wd.heap.size = b := ⟨_, rfl⟩
   rw [hbx] at HBX ⊢
   clear hbx
   generalize Wd.alloc (.cells #[.int .u64 0] 31) = w8 at HT HPd HL HBX ⊢
   dsimp only
   refine hKK _ _ (.both HT.out trivial) ?_
   clear hKK h2 h3 K o
   try simp only [pt, pn, sL]
   refine E_one 19 (by kernel_rfl) (StepE.of 19 (some 26) _ rfl (by rfl) fun o K h2 h3 hKK => ?_)
   unfold Oper.wp execOp
   simp only [h3]
   go_simp
   have H := number1_any (F := F) _ zero_u64 b5 bx w8 HPd.out.pool (Nat.le_trans HB.out HPd.out.size) (HPd.out.blk HE.out.e5.1 HE.out.e5.2).1 HBX.out
   rw [HR.out] at H
   refine (then_yes 115 _ _ (RR base g F W r) enters1_1 (H.mono fun e w' q => RR.of (RetP.from HPd.out q))).mono ?_
   clear H
   rintro e w9 ⟨n, m, rfl, hrr⟩
   have HRR := hide hrr
   obtain ⟨_, _, F9, h9⟩ := hrr
   replace HT := hide (⟨(h9.blk HE.out.e20.1 HE.out.e20.2).1, (h9.blk HE.out.e19.1 HE.out.e19.2).1, (h9.blk HE.out.e6.1 HE.out.e6.2).1, (h9.blk HE.out.e21.1 HE.out.e21.2).1⟩ : Blk w9 b20 4 #[.bool true] ∧ Blk w9 b19 31 #[.int .u64 d] ∧ Blk w9 b6 30 #[.int .i8 op] ∧ Blk w9 b21 177 #[.func (.func 114) #[] #[.pointer (some ⟨b5, 0, none⟩)]])
   clear h9 HBX HPd HL
   dsimp only
   refine hKK _ _ (.both HT.out trivial) ?_
   clear hKK h2 h3 K o
   try simp only [pt, pn, sL]
   refine eg 20 (.int .i64 n) (.both HT.out trivial) ?_
   simp only [sL]
   refine eg 21 (.bool true) (.both HT.out trivial) ?_
   simp only [sL]
   refine eg 22 (.int .i64 m) (.both HT.out trivial) ?_
   simp only [sL]
   refine E_one 23 (by kernel_rfl) (StepE.assign 23 (some 4) _ (.int .i64 n) rfl (by rfl) (by rfl) (.both HT.out trivial) ?_)
   simp only [pt, pn, sL]
   refine E_one 24 (by kernel_rfl) (StepE.assign 24 (some 5) _ (.bool true) rfl (by rfl) (by rfl) (.both HT.out trivial) ?_)
   simp only [pt, pn, sL]
   refine E_one 25 (by kernel_rfl) (StepE.assign 25 (some 6) _ (.int .i64 m) rfl (by rfl) (by rfl) (.both HT.out trivial) ?_)
   simp only [pt, pn, sL]
   refine wpAnyE_done (by kernel_rfl) ?_ _
   go_wp2
   exact bodyPost_ret (v := .tuple #[.int .i64 n, .bool true, .int .i64 m]) (by simp [results, Tryz.results133, go_sem]) rfl ⟨n, m, rfl, HRR.out⟩
 ·clear hq
  have HE := hide hE
  have HP := hide hp
  have HP0 := hide (PG.refl hp)
  have HL0 := hide (Below.refl W.heap.size W)
  clear hE hp
  go_enter Tryz.func133, Tryz.ntmps133
  go_upto_region 1 with fail
  refine wp_region_E (fun w' => Blk w' b20 4 #[.bool true] ∧ Blk w' b19 31 #[.int .u64 d] ∧ Blk w' b6 30 #[.int .i8 op] ∧ Blk w' b21 177 #[.func (.func 114) #[] #[.pointer (some ⟨b5, 0, none⟩)]]) (fun _ => True) [] (by kernel_rfl) ?_
  have HPd := hide (HP0.out.step ((Below.refl _ _).drew))
  have HL := hide (HL0.out.trans (((Below.refl _ _).drew).mono HL0.out.size))
  have HT := hide (⟨(HPd.out.blk HE.out.e20.1 HE.out.e20.2).1, (HPd.out.blk HE.out.e19.1 HE.out.e19.2).1, (HPd.out.blk HE.out.e6.1 HE.out.e6.2).1, (HPd.out.blk HE.out.e21.1 HE.out.e21.2).1⟩ : Blk W.drew b20 4 #[.bool true] ∧ Blk W.drew b19 31 #[.int .u64 d] ∧ Blk W.drew b6 30 #[.int .i8 op] ∧ Blk W.drew b21 177 #[.func (.func 114) #[] #[.pointer (some ⟨b5, 0, none⟩)]])
  clear HP0 HL0
  generalize W.drew = Wd at HT HPd HL ⊢
  refine el false 0 ⟨b20, 0, none⟩ (.bool true) Tryz.underlying4 (fun w hS => (hS.1.1.cell 0)) (.both HT.out trivial) ?_
  simp only [sL]
  refine em 1 (.bool true) (.both HT.out trivial) ?_
  simp only [sL]
  refine el false 2 ⟨b19, 0, none⟩ (.int .u64 d) Tryz.underlying31 (fun w hS => (hS.1.2.1.cell 0)) (.both HT.out trivial) ?_
  simp only [sL]
  refine eg 3 (.bool true) (.both HT.out trivial) ?_
  simp only [sL]
  refine ep 4 true (.bool true) (.both HT.out trivial) ?_
  simp only [sL]
  refine em 5 (.bool true) (.both HT.out trivial) ?_
  simp only [sL]
  refine el false 6 ⟨b6, 0, none⟩ (.int .i8 op) Tryz.underlying30 (fun w hS => (hS.1.2.2.1.cell 0)) (.both HT.out trivial) ?_
  simp only [sL]
  refine eg 7 (.bool true) (.both HT.out trivial) ?_
  simp only [sL]
  refine em 8 (.bool true) (.both HT.out trivial) ?_
  simp only [sL]
  refine en 9 (.both HT.out trivial) ?_
  simp only [sL]
  refine en 10 (.both HT.out trivial) ?_
  simp only [sL]
  refine ep 11 true (.bool true) (.both HT.out trivial) ?_
  simp only [sL]
  refine em 12 (.bool true) (.both HT.out trivial) ?_
  simp only [sL]
  refine en 13 (.both HT.out trivial) ?_
  simp only [sL]
  refine en 14 (.both HT.out trivial) ?_
  simp only [sL]
  refine ep 15 true (.bool true) (.both HT.out trivial) ?_
  simp only [sL]
  refine ep 16 true (.bool true) (.both HT.out trivial) ?_
  simp only [sL]
  refine E_load1 false 17 (some 24) 177 _ ⟨b21, 0, none⟩ (.func (.func 114) #[] #[.pointer (some ⟨b5, 0, none⟩)]) rfl (by kernel_rfl) (by rfl) (fun _ _ _ h => h) (by rfl) (fun w hS => run_loadVar_one _ _ _ _ Tryz.underlying177 rfl (hS.1.2.2.2.cell 0)) (.both HT.out trivial) ?_
  simp only [pt, pn, sL]
  refine E_one 18 (by kernel_rfl) (StepE.of 18 (some 25) _ rfl (by rfl) fun o K h2 h3 hKK => ?_)
  unfold Oper.wp execOp
  simp only [h3]
  go_simp
  refine (number_any _ _ _).mono ?_
  rintro e w8 ⟨rfl, rfl⟩
  have hb8 : Below Wd.heap.size Wd (Wd.alloc (.cells #[.int .u64 0] 31)) := (Below.refl _ _).alloc (Nat.le_refl _) _
  have HBX := hide (Blk.new Wd 31 #[.int .u64 0])
  replace HPd := hide (HPd.out.step hb8)
  replace HT := hide (⟨(HPd.out.blk HE.out.e20.1 HE.out.e20.2).1, (HPd.out.blk HE.out.e19.1 HE.out.e19.2).1, (HPd.out.blk HE.out.e6.1 HE.out.e6.2).1, (HPd.out.blk HE.out.e21.1 HE.out.e21.2).1⟩ : Blk (Wd.alloc (.cells #[.int .u64 0] 31)) b20 4 #[.bool true] ∧ Blk (Wd.alloc (.cells #[.int .u64 0] 31)) b19 31 #[.int .u64 d] ∧ Blk (Wd.alloc (.cells #[.int .u64 0] 31)) b6 30 #[.int .i8 op] ∧ Blk (Wd.alloc (.cells #[.int .u64 0] 31)) b21 177 #[.func (.func 114) #[] #[.pointer (some ⟨b5, 0, none⟩)]])
  replace HL := hide (HL.out.trans (hb8.mono HL.out.size))
  clear hb8
  obtain ⟨bx, hbx⟩ : ∃ b, Wd.heap.size = b := ⟨_, rfl⟩
  rw [hbx] at HBX ⊢
  clear hbx
  generalize Wd.alloc (.cells #[.int .u64 0] 31) = w8 at HT HPd HL HBX ⊢
  dsimp only
  refine hKK _ _ (.both HT.out trivial) ?_
  clear hKK h2 h3 K o
  try simp only [pt, pn, sL]
  refine E_one 19 (by kernel_rfl) (StepE.of 19 (some 26) _ rfl (by rfl) fun o K h2 h3 hKK => ?_)
  unfold Oper.wp execOp
  simp only [h3]
  go_simp
  have H := number1_any (F := F) _ zero_u64 b5 bx w8 HPd.out.pool (Nat.le_trans HB.out HPd.out.size) (HPd.out.blk HE.out.e5.1 HE.out.e5.2).1 HBX.out
  rw [HR.out] at H
  refine (then_yes 115 _ _ (RR base g F W r) enters1_1 (H.mono fun e w' q => RR.of (RetP.from HPd.out q))).mono ?_
  clear H
  rintro e w9 ⟨n, m, rfl, hrr⟩
  have HRR := hide hrr
  obtain ⟨_, _, F9, h9⟩ := hrr
  replace HT := hide (⟨(h9.blk HE.out.e20.1 HE.out.e20.2).1, (h9.blk HE.out.e19.1 HE.out.e19.2).1, (h9.blk HE.out.e6.1 HE.out.e6.2).1, (h9.blk HE.out.e21.1 HE.out.e21.2).1⟩ : Blk w9 b20 4 #[.bool true] ∧ Blk w9 b19 31 #[.int .u64 d] ∧ Blk w9 b6 30 #[.int .i8 op] ∧ Blk w9 b21 177 #[.func (.func 114) #[] #[.pointer (some ⟨b5, 0, none⟩)]])
  clear h9 HBX HPd HL
  dsimp only
  refine hKK _ _ (.both HT.out trivial) ?_
  clear hKK h2 h3 K o
  try simp only [pt, pn, sL]
  refine eg 20 (.int .i64 n) (.both HT.out trivial) ?_
  simp only [sL]
  refine eg 21 (.bool true) (.both HT.out trivial) ?_
  simp only [sL]
  refine eg 22 (.int .i64 m) (.both HT.out trivial) ?_
  simp only [sL]
  refine E_one 23 (by kernel_rfl) (StepE.assign 23 (some 4) _ (.int .i64 n) rfl (by rfl) (by rfl) (.both HT.out trivial) ?_)
  simp only [pt, pn, sL]
  refine E_one 24 (by kernel_rfl) (StepE.assign 24 (some 5) _ (.bool true) rfl (by rfl) (by rfl) (.both HT.out trivial) ?_)
  simp only [pt, pn, sL]
  refine E_one 25 (by kernel_rfl) (StepE.assign 25 (some 6) _ (.int .i64 m) rfl (by rfl) (by rfl) (.both HT.out trivial) ?_)
  simp only [pt, pn, sL]
  refine wpAnyE_done (by kernel_rfl) ?_ _
  go_wp2
  exact bodyPost_ret (v := .tuple #[.int .i64 n, .bool true, .int .i64 m]) (by simp [results, Tryz.results133, go_sem]) rfl ⟨n, m, rfl, HRR.out⟩
set_option maxHeartbeats 8000000 in
theorem law11_no (hE : OpE g op x a b c d lf rt tn sh b5 b6 b7 b8 b9 b15 b17 b18 b19 b20 b21 b22 b23 b24 F W) (hp : PoolAt W base F g p) (hf : (a == b && (op == 1 || op == 10)) = false) :
  Calls Tryz.prog 134 #[.pointer (some ⟨b8, 0, none⟩), .pointer (some ⟨b9, 0, none⟩), .pointer (some ⟨b6, 0, none⟩), .pointer (some ⟨b21, 0, none⟩)] W (fun e w' => e = .returned (.tuple #[.int .i64 0, .bool false, .int .i64 0]) ∧ Below W.heap.size W w') := by
 cases hab : (a == b)
 ·clear hf
  have HE := hide hE
  have HP := hide hp
  have HP0 := hide (PG.refl hp)
  have HL0 := hide (Below.refl W.heap.size W)
  clear hE hp
  go_enter Tryz.func134, Tryz.ntmps134
  go_upto_region 1 with fail
  refine wp_region_E (fun w' => Blk w' b8 3 #[.int .i64 a] ∧ Blk w' b9 3 #[.int .i64 b] ∧ Blk w' b6 30 #[.int .i8 op] ∧ Blk w' b21 177 #[.func (.func 114) #[] #[.pointer (some ⟨b5, 0, none⟩)]]) (fun _ => True) [] (by kernel_rfl) ?_
  have HPd := hide (HP0.out.step ((Below.refl _ _).drew))
  have HL := hide (HL0.out.trans (((Below.refl _ _).drew).mono HL0.out.size))
  have HT := hide (⟨(HPd.out.blk HE.out.e8.1 HE.out.e8.2).1, (HPd.out.blk HE.out.e9.1 HE.out.e9.2).1, (HPd.out.blk HE.out.e6.1 HE.out.e6.2).1, (HPd.out.blk HE.out.e21.1 HE.out.e21.2).1⟩ : Blk W.drew b8 3 #[.int .i64 a] ∧ Blk W.drew b9 3 #[.int .i64 b] ∧ Blk W.drew b6 30 #[.int .i8 op] ∧ Blk W.drew b21 177 #[.func (.func 114) #[] #[.pointer (some ⟨b5, 0, none⟩)]])
  clear HP0 HL0
  generalize W.drew = Wd at HT HPd HL ⊢
  refine el false 0 ⟨b8, 0, none⟩ (.int .i64 a) Tryz.underlying3 (fun w hS => (hS.1.1.cell 0)) (.both HT.out trivial) ?_
  simp only [sL]
  refine el false 1 ⟨b9, 0, none⟩ (.int .i64 b) Tryz.underlying3 (fun w hS => (hS.1.2.1.cell 0)) (.both HT.out trivial) ?_
  simp only [sL]
  refine eg 2 (.bool false) (.both HT.out trivial) ?_
  simp only [sL]
  refine em 3 (.bool false) (.both HT.out trivial) ?_
  simp only [sL]
  refine en 4 (.both HT.out trivial) ?_
  simp only [sL]
  refine en 5 (.both HT.out trivial) ?_
  simp only [sL]
  refine en 6 (.both HT.out trivial) ?_
  simp only [sL]
  refine en 7 (.both HT.out trivial) ?_
  simp only [sL]
  refine en 8 (.both HT.out trivial) ?_
  simp only [sL]
  refine en 9 (.both HT.out trivial) ?_
  simp only [sL]
  refine ep 10 false (.bool false) (.both HT.out trivial) ?_
  simp only [sL]
  refine E_load1 false 11 (some 18) 177 _ ⟨b21, 0, none⟩ (.func (.func 114) #[] #[.pointer (some ⟨b5, 0, none⟩)]) rfl (by kernel_rfl) (by rfl) (fun _ _ _ h => h) (by rfl) (fun w hS => run_loadVar_one _ _ _ _ Tryz.underlying177 rfl (hS.1.2.2.2.cell 0)) (.both HT.out trivial) ?_
  simp only [pt, pn, sL]
  refine E_one 12 (by kernel_rfl) (StepE.of 12 (some 19) _ rfl (by rfl) fun o K h2 h3 hKK => ?_)
  unfold Oper.wp execOp
  simp only [h3]
  go_simp
  refine (number_any _ _ _).mono ?_
  rintro e w8 ⟨rfl, rfl⟩
  have hb8 : Below Wd.heap.size Wd (Wd.alloc (.cells #[.int .u64 0] 31)) := (Below.refl _ _).alloc (Nat.le_refl _) _
  have HBX := hide (Blk.new Wd 31 #[.int .u64 0])
  replace HPd := hide (HPd.out.step hb8)
  replace HT := hide (⟨(HPd.out.blk HE.out.e8.1 HE.out.e8.2).1, (HPd.out.blk HE.out.e9.1 HE.out.e9.2).1, (HPd.out.blk HE.out.e6.1 HE.out.e6.2).1, (HPd.out.blk HE.out.e21.1 HE.out.e21.2).1⟩ : Blk (Wd.alloc (.cells #[.int .u64 0] 31)) b8 3 #[.int .i64 a] ∧ Blk (Wd.alloc (.cells #[.int .u64 0] 31)) b9 3 #[.int .i64 b] ∧ Blk (Wd.alloc (.cells #[.int .u64 0] 31)) b6 30 #[.int .i8 op] ∧ Blk (Wd.alloc (.cells #[.int .u64 0] 31)) b21 177 #[.func (.func 114) #[] #[.pointer (some ⟨b5, 0, none⟩)]])
  replace HL := hide (HL.out.trans (hb8.mono HL.out.size))
  clear hb8
  obtain ⟨bx, hbx⟩ : ∃ b, Wd.heap.size = b := ⟨_, rfl⟩
  rw [hbx] at HBX ⊢
  clear hbx
  generalize Wd.alloc (.cells #[.int .u64 0] 31) = w8 at HT HPd HL HBX ⊢
  dsimp only
  refine hKK _ _ (.both HT.out trivial) ?_
  clear hKK h2 h3 K o
  try simp only [pt, pn, sL]
  refine E_one 13 (by kernel_rfl) (StepE.of 13 (some 20) _ rfl (by rfl) fun o K h2 h3 hKK => ?_)
  unfold Oper.wp execOp
  simp only [h3]
  go_simp
  refine (then_no _ _).mono ?_
  rintro e w9 ⟨rfl, rfl⟩
  dsimp only
  refine hKK _ _ (.both HT.out trivial) ?_
  clear hKK h2 h3 K o
  try simp only [pt, pn, sL]
  refine eg 14 (.int .i64 0) (.both HT.out trivial) ?_
  simp only [sL]
  refine eg 15 (.bool false) (.both HT.out trivial) ?_
  simp only [sL]
  refine eg 16 (.int .i64 0) (.both HT.out trivial) ?_
  simp only [sL]
  refine E_one 17 (by kernel_rfl) (StepE.assign 17 (some 4) _ (.int .i64 0) rfl (by rfl) (by rfl) (.both HT.out trivial) ?_)
  simp only [pt, pn, sL]
  refine E_one 18 (by kernel_rfl) (StepE.assign 18 (some 5) _ (.bool false) rfl (by rfl) (by rfl) (.both HT.out trivial) ?_)
  simp only [pt, pn, sL]
  refine E_one 19 (by kernel_rfl) (StepE.assign 19 (some 6) _ (.int .i64 0) rfl (by rfl) (by rfl) (.both HT.out trivial) ?_)
  simp only [pt, pn, sL]
  refine wpAnyE_done (by kernel_rfl) ?_ _
  go_wp2
  exact bodyPost_ret (v := .tuple #[.int .i64 0, .bool false, .int .i64 0]) (by simp [results, Tryz.results134, go_sem]) rfl ⟨rfl, HL.out⟩
 ·have h1 : (op == 1) = false := by revert hf; rw [hab]; cases (op == 1) <;> simp
  have h2 : (op == 10) = false := by revert hf; rw [hab]; cases (op == 10) <;> simp
  clear hf
  have HE := hide hE
  have HP := hide hp
  have HP0 := hide (PG.refl hp)
  have HL0 := hide (Below.refl W.heap.size W)
  clear hE hp
  go_enter Tryz.func134, Tryz.ntmps134
  go_upto_region 1 with fail
  refine wp_region_E (fun w' => Blk w' b8 3 #[.int .i64 a] ∧ Blk w' b9 3 #[.int .i64 b] ∧ Blk w' b6 30 #[.int .i8 op] ∧ Blk w' b21 177 #[.func (.func 114) #[] #[.pointer (some ⟨b5, 0, none⟩)]]) (fun _ => True) [] (by kernel_rfl) ?_
  have HPd := hide (HP0.out.step ((Below.refl _ _).drew))
  have HL := hide (HL0.out.trans (((Below.refl _ _).drew).mono HL0.out.size))
  have HT := hide (⟨(HPd.out.blk HE.out.e8.1 HE.out.e8.2).1, (HPd.out.blk HE.out.e9.1 HE.out.e9.2).1, (HPd.out.blk HE.out.e6.1 HE.out.e6.2).1, (HPd.out.blk HE.out.e21.1 HE.out.e21.2).1⟩ : Blk W.drew b8 3 #[.int .i64 a] ∧ Blk W.drew b9 3 #[.int .i64 b] ∧ Blk W.drew b6 30 #[.int .i8 op] ∧ Blk W.drew b21 177 #[.func (.func 114) #[] #[.pointer (some ⟨b5, 0, none⟩)]])
  clear HP0 HL0
  generalize W.drew = Wd at HT HPd HL ⊢
  refine el false 0 ⟨b8, 0, none⟩ (.int .i64 a) Tryz.underlying3 (fun w hS => (hS.1.1.cell 0)) (.both HT.out trivial) ?_
  simp only [sL]
  refine el false 1 ⟨b9, 0, none⟩ (.int .i64 b) Tryz.underlying3 (fun w hS => (hS.1.2.1.cell 0)) (.both HT.out trivial) ?_
  simp only [sL]
  refine eg 2 (.bool true) (.both HT.out trivial) ?_
  simp only [sL]
  refine em 3 (.bool true) (.both HT.out trivial) ?_
  simp only [sL]
  refine el false 4 ⟨b6, 0, none⟩ (.int .i8 op) Tryz.underlying30 (fun w hS => (hS.1.2.2.1.cell 0)) (.both HT.out trivial) ?_
  simp only [sL]
  refine eg 5 (.bool false) (.both HT.out trivial) ?_
  simp only [sL]
  refine em 6 (.bool false) (.both HT.out trivial) ?_
  simp only [sL]
  refine el false 7 ⟨b6, 0, none⟩ (.int .i8 op) Tryz.underlying30 (fun w hS => (hS.1.2.2.1.cell 0)) (.both HT.out trivial) ?_
  simp only [sL]
  refine eg 8 (.bool false) (.both HT.out trivial) ?_
  simp only [sL]
  refine ep 9 false (.bool false) (.both HT.out trivial) ?_
  simp only [sL]
  refine ep 10 true (.bool false) (.both HT.out trivial) ?_
  simp only [sL]
  refine E_load1 false 11 (some 18) 177 _ ⟨b21, 0, none⟩ (.func (.func 114) #[] #[.pointer (some ⟨b5, 0, none⟩)]) rfl (by kernel_rfl) (by rfl) (fun _ _ _ h => h) (by rfl) (fun w hS => run_loadVar_one _ _ _ _ Tryz.underlying177 rfl (hS.1.2.2.2.cell 0)) (.both HT.out trivial) ?_
  simp only [pt, pn, sL]
  refine E_one 12 (by kernel_rfl) (StepE.of 12 (some 19) _ rfl (by rfl) fun o K h2 h3 hKK => ?_)
  unfold Oper.wp execOp
  simp only [h3]
  go_simp
  refine (number_any _ _ _).mono ?_
  rintro e w8 ⟨rfl, rfl⟩
  have hb8 : Below Wd.heap.size Wd (Wd.alloc (.cells #[.int .u64 0] 31)) := (Below.refl _ _).alloc (Nat.le_refl _) _
  have HBX := hide (Blk.new Wd 31 #[.int .u64 0])
  replace HPd := hide (HPd.out.step hb8)
  replace HT := hide (⟨(HPd.out.blk HE.out.e8.1 HE.out.e8.2).1, (HPd.out.blk HE.out.e9.1 HE.out.e9.2).1, (HPd.out.blk HE.out.e6.1 HE.out.e6.2).1, (HPd.out.blk HE.out.e21.1 HE.out.e21.2).1⟩ : Blk (Wd.alloc (.cells #[.int .u64 0] 31)) b8 3 #[.int .i64 a] ∧ Blk (Wd.alloc (.cells #[.int .u64 0] 31)) b9 3 #[.int .i64 b] ∧ Blk (Wd.alloc (.cells #[.int .u64 0] 31)) b6 30 #[.int .i8 op] ∧ Blk (Wd.alloc (.cells #[.int .u64 0] 31)) b21 177 #[.func (.func 114) #[] #[.pointer (some ⟨b5, 0, none⟩)]])
  replace HL := hide (HL.out.trans (hb8.mono HL.out.size))
  clear hb8
  obtain ⟨bx, hbx⟩ : ∃ b, Wd.heap.size = b := ⟨_, rfl⟩
  rw [hbx] at HBX ⊢
  clear hbx
  generalize Wd.alloc (.cells #[.int .u64 0] 31) = w8 at HT HPd HL HBX ⊢
  dsimp only
  refine hKK _ _ (.both HT.out trivial) ?_
  clear hKK h2 h3 K o
  try simp only [pt, pn, sL]
  refine E_one 13 (by kernel_rfl) (StepE.of 13 (some 20) _ rfl (by rfl) fun o K h2 h3 hKK => ?_)
  unfold Oper.wp execOp
  simp only [h3]
  go_simp
  refine (then_no _ _).mono ?_
  rintro e w9 ⟨rfl, rfl⟩
  dsimp only
  refine hKK _ _ (.both HT.out trivial) ?_
  clear hKK h2 h3 K o
  try simp only [pt, pn, sL]
  refine eg 14 (.int .i64 0) (.both HT.out trivial) ?_
  simp only [sL]
  refine eg 15 (.bool false) (.both HT.out trivial) ?_
  simp only [sL]
  refine eg 16 (.int .i64 0) (.both HT.out trivial) ?_
  simp only [sL]
  refine E_one 17 (by kernel_rfl) (StepE.assign 17 (some 4) _ (.int .i64 0) rfl (by rfl) (by rfl) (.both HT.out trivial) ?_)
  simp only [pt, pn, sL]
  refine E_one 18 (by kernel_rfl) (StepE.assign 18 (some 5) _ (.bool false) rfl (by rfl) (by rfl) (.both HT.out trivial) ?_)
  simp only [pt, pn, sL]
  refine E_one 19 (by kernel_rfl) (StepE.assign 19 (some 6) _ (.int .i64 0) rfl (by rfl) (by rfl) (.both HT.out trivial) ?_)
  simp only [pt, pn, sL]
  refine wpAnyE_done (by kernel_rfl) ?_ _
  go_wp2
  exact bodyPost_ret (v := .tuple #[.int .i64 0, .bool false, .int .i64 0]) (by simp [results, Tryz.results134, go_sem]) rfl ⟨rfl, HL.out⟩
set_option maxHeartbeats 8000000 in
theorem law11_yes (hE : OpE g op x a b c d lf rt tn sh b5 b6 b7 b8 b9 b15 b17 b18 b19 b20 b21 b22 b23 b24 F W) (hp : PoolAt W base F g p) (hbase : base ≤ W.heap.size) (hr : putR p (constT 0) = r) (hf : (a == b && (op == 1 || op == 10)) = true) :
  Calls Tryz.prog 134 #[.pointer (some ⟨b8, 0, none⟩), .pointer (some ⟨b9, 0, none⟩), .pointer (some ⟨b6, 0, none⟩), .pointer (some ⟨b21, 0, none⟩)] W (fun e w' => ∃ n m, e = .returned (.tuple #[.int .i64 n, .bool true, .int .i64 m]) ∧ RR base g F W r n m w') := by
 have HB := hide hbase
 have HR := hide hr
 clear hbase hr
 have hab : (a == b) = true := by revert hf; cases (a == b) <;> simp
 cases h1 : (op == 1)
 ·have h2 : (op == 10) = true := by revert hf; rw [hab, h1]; simp
  clear hf
  have HE := hide hE
  have HP := hide hp
  have HP0 := hide (PG.refl hp)
  have HL0 := hide (Below.refl W.heap.size W)
  clear hE hp
  go_enter Tryz.func134, Tryz.ntmps134
  go_upto_region 1 with fail
  refine wp_region_E (fun w' => Blk w' b8 3 #[.int .i64 a] ∧ Blk w' b9 3 #[.int .i64 b] ∧ Blk w' b6 30 #[.int .i8 op] ∧ Blk w' b21 177 #[.func (.func 114) #[] #[.pointer (some ⟨b5, 0, none⟩)]]) (fun _ => True) [] (by kernel_rfl) ?_
  have HPd := hide (HP0.out.step ((Below.refl _ _).drew))
  have HL := hide (HL0.out.trans (((Below.refl _ _).drew).mono HL0.out.size))
  have HT := hide (⟨(HPd.out.blk HE.out.e8.1 HE.out.e8.2).1, (HPd.out.blk HE.out.e9.1 HE.out.e9.2).1, (HPd.out.blk HE.out.e6.1 HE.out.e6.2).1, (HPd.out.blk HE.out.e21.1 HE.out.e21.2).1⟩ : Blk W.drew b8 3 #[.int .i64 a] ∧ Blk W.drew b9 3 #[.int .i64 b] ∧ Blk W.drew b6 30 #[.int .i8 op] ∧ Blk W.drew b21 177 #[.func (.func 114) #[] #[.pointer (some ⟨b5, 0, none⟩)]])
  clear HP0 HL0
  generalize W.drew = Wd at HT HPd HL ⊢
  refine el false 0 ⟨b8, 0, none⟩ (.int .i64 a) Tryz.underlying3 (fun w hS => (hS.1.1.cell 0)) (.both HT.out trivial) ?_
  simp only [sL]
  refine el false 1 ⟨b9, 0, none⟩ (.int .i64 b) Tryz.underlying3 (fun w hS => (hS.1.2.1.cell 0)) (.both HT.out trivial) ?_
  simp only [sL]
  refine eg 2 (.bool true) (.both HT.out trivial) ?_
  simp only [sL]
  refine em 3 (.bool true) (.both HT.out trivial) ?_
  simp only [sL]
  refine el false 4 ⟨b6, 0, none⟩ (.int .i8 op) Tryz.underlying30 (fun w hS => (hS.1.2.2.1.cell 0)) (.both HT.out trivial) ?_
  simp only [sL]
  refine eg 5 (.bool false) (.both HT.out trivial) ?_
  simp only [sL]
  refine em 6 (.bool false) (.both HT.out trivial) ?_
  simp only [sL]
  refine el false 7 ⟨b6, 0, none⟩ (.int .i8 op) Tryz.underlying30 (fun w hS => (hS.1.2.2.1.cell 0)) (.both HT.out trivial) ?_
  simp only [sL]
  refine eg 8 (.bool true) (.both HT.out trivial) ?_
  simp only [sL]
  refine ep 9 false (.bool true) (.both HT.out trivial) ?_
  simp only [sL]
  refine ep 10 true (.bool true) (.both HT.out trivial) ?_
  simp only [sL]
  refine E_load1 false 11 (some 18) 177 _ ⟨b21, 0, none⟩ (.func (.func 114) #[] #[.pointer (some ⟨b5, 0, none⟩)]) rfl (by kernel_rfl) (by rfl) (fun _ _ _ h => h) (by rfl) (fun w hS => run_loadVar_one _ _ _ _ Tryz.underlying177 rfl (hS.1.2.2.2.cell 0)) (.both HT.out trivial) ?_
  simp only [pt, pn, sL]
  refine E_one 12 (by kernel_rfl) (StepE.of 12 (some 19) _ rfl (by rfl) fun o K h2 h3 hKK => ?_)
  unfold Oper.wp execOp
  simp only [h3]
  go_simp
  refine (number_any _ _ _).mono ?_
  rintro e w8 ⟨rfl, rfl⟩
  have hb8 : Below Wd.heap.size Wd (Wd.alloc (.cells #[.int .u64 0] 31)) := (Below.refl _ _).alloc (Nat.le_refl _) _
  have HBX := hide (Blk.new Wd 31 #[.int .u64 0])
  replace HPd := hide (HPd.out.step hb8)
  replace HT := hide (⟨(HPd.out.blk HE.out.e8.1 HE.out.e8.2).1, (HPd.out.blk HE.out.e9.1 HE.out.e9.2).1, (HPd.out.blk HE.out.e6.1 HE.out.e6.2).1, (HPd.out.blk HE.out.e21.1 HE.out.e21.2).1⟩ : Blk (Wd.alloc (.cells #[.int .u64 0] 31)) b8 3 #[.int .i64 a] ∧ Blk (Wd.alloc (.cells #[.int .u64 0] 31)) b9 3 #[.int .i64 b] ∧ Blk (Wd.alloc (.cells #[.int .u64 0] 31)) b6 30 #[.int .i8 op] ∧ Blk (Wd.alloc (.cells #[.int .u64 0] 31)) b21 177 #[.func (.func 114) #[] #[.pointer (some ⟨b5, 0, none⟩)]])
  replace HL := hide (HL.out.trans (hb8.mono HL.out.size))
  clear hb8
  obtain ⟨bx, hbx⟩ : ∃ b, Wd.heap.size = b := ⟨_, rfl⟩
  rw [hbx] at HBX ⊢
  clear hbx
  generalize Wd.alloc (.cells #[.int .u64 0] 31) = w8 at HT HPd HL HBX ⊢
  dsimp only
  refine hKK _ _ (.both HT.out trivial) ?_
  clear hKK h2 h3 K o
  try simp only [pt, pn, sL]
  refine E_one 13 (by kernel_rfl) (StepE.of 13 (some 20) _ rfl (by rfl) fun o K h2 h3 hKK => ?_)
  unfold Oper.wp execOp
  simp only [h3]
  go_simp
  have H := number1_any (F := F) _ zero_u64 b5 bx w8 HPd.out.pool (Nat.le_trans HB.out HPd.out.size) (HPd.out.blk HE.out.e5.1 HE.out.e5.2).1 HBX.out
  rw [HR.out] at H
  refine (then_yes 115 _ _ (RR base g F W r) enters1_1 (H.mono fun e w' q => RR.of (RetP.from HPd.out q))).mono ?_
  clear H
  rintro e w9 ⟨n, m, rfl, hrr⟩
  have HRR := hide hrr
  obtain ⟨_, _, F9, h9⟩ := hrr
  replace HT := hide (⟨(h9.blk HE.out.e8.1 HE.out.e8.2).1, (h9.blk HE.out.e9.1 HE.out.e9.2).1, (h9.blk HE.out.e6.1 HE.out.e6.2).1, (h9.blk HE.out.e21.1 HE.out.e21.2).1⟩ : Blk w9 b8 3 #[.int .i64 a] ∧ Blk w9 b9 3 #[.int .i64 b] ∧ Blk w9 b6 30 #[.int .i8 op] ∧ Blk w9 b21 177 #[.func (.func 114) #[] #[.pointer (some ⟨b5, 0, none⟩)]])
  clear h9 HBX HPd HL
  dsimp only
  refine hKK _ _ (.both HT.out trivial) ?_
  clear hKK h2 h3 K o
  try simp only [pt, pn, sL]
  refine eg 14 (.int .i64 n) (.both HT.out trivial) ?_
  simp only [sL]
  refine eg 15 (.bool true) (.both HT.out trivial) ?_
  simp only [sL]
  refine eg 16 (.int .i64 m) (.both HT.out trivial) ?_
  simp only [sL]
  refine E_one 17 (by kernel_rfl) (StepE.assign 17 (some 4) _ (.int .i64 n) rfl (by rfl) (by rfl) (.both HT.out trivial) ?_)
  simp only [pt, pn, sL]
  refine E_one 18 (by kernel_rfl) (StepE.assign 18 (some 5) _ (.bool true) rfl (by rfl) (by rfl) (.both HT.out trivial) ?_)
  simp only [pt, pn, sL]
  refine E_one 19 (by kernel_rfl) (StepE.assign 19 (some 6) _ (.int .i64 m) rfl (by rfl) (by rfl) (.both HT.out trivial) ?_)
  simp only [pt, pn, sL]
  refine wpAnyE_done (by kernel_rfl) ?_ _
  go_wp2
  exact bodyPost_ret (v := .tuple #[.int .i64 n, .bool true, .int .i64 m]) (by simp [results, Tryz.results134, go_sem]) rfl ⟨n, m, rfl, HRR.out⟩
 ·clear hf
  have HE := hide hE
  have HP := hide hp
  have HP0 := hide (PG.refl hp)
  have HL0 := hide (Below.refl W.heap.size W)
  clear hE hp
  go_enter Tryz.func134, Tryz.ntmps134
  go_upto_region 1 with fail
  refine wp_region_E (fun w' => Blk w' b8 3 #[.int .i64 a] ∧ Blk w' b9 3 #[.int .i64 b] ∧ Blk w' b6 30 #[.int .i8 op] ∧ Blk w' b21 177 #[.func (.func 114) #[] #[.pointer (some ⟨b5, 0, none⟩)]]) (fun _ => True) [] (by kernel_rfl) ?_
  have HPd := hide (HP0.out.step ((Below.refl _ _).drew))
  have HL := hide (HL0.out.trans (((Below.refl _ _).drew).mono HL0.out.size))
  have HT := hide (⟨(HPd.out.blk HE.out.e8.1 HE.out.e8.2).1, (HPd.out.blk HE.out.e9.1 HE.out.e9.2).1, (HPd.out.blk HE.out.e6.1 HE.out.e6.2).1, (HPd.out.blk HE.out.e21.1 HE.out.e21.2).1⟩ : Blk W.drew b8 3 #[.int .i64 a] ∧ Blk W.drew b9 3 #[.int .i64 b] ∧ Blk W.drew b6 30 #[.int .i8 op] ∧ Blk W.drew b21 177 #[.func (.func 114) #[] #[.pointer (some ⟨b5, 0, none⟩)]])
  clear HP0 HL0
  generalize W.drew = Wd at HT HPd HL ⊢
  refine el false 0 ⟨b8, 0, none⟩ (.int .i64 a) Tryz.underlying3 (fun w hS => (hS.1.1.cell 0)) (.both HT.out trivial) ?_
  simp only [sL]
  refine el false 1 ⟨b9, 0, none⟩ (.int .i64 b) Tryz.underlying3 (fun w hS => (hS.1.2.1.cell 0)) (.both HT.out trivial) ?_
  simp only [sL]
  refine eg 2 (.bool true) (.both HT.out trivial) ?_
  simp only [sL]
  refine em 3 (.bool true) (.both HT.out trivial) ?_
  simp only [sL]
  refine el false 4 ⟨b6, 0, none⟩ (.int .i8 op) Tryz.underlying30 (fun w hS => (hS.1.2.2.1.cell 0)) (.both HT.out trivial) ?_
  simp only [sL]
  refine eg 5 (.bool true) (.both HT.out trivial) ?_
  simp only [sL]
  refine em 6 (.bool true) (.both HT.out trivial) ?_
  simp only [sL]
  refine en 7 (.both HT.out trivial) ?_
  simp only [sL]
  refine en 8 (.both HT.out trivial) ?_
  simp only [sL]
  refine ep 9 true (.bool true) (.both HT.out trivial) ?_
  simp only [sL]
  refine ep 10 true (.bool true) (.both HT.out trivial) ?_
  simp only [sL]
  refine E_load1 false 11 (some 18) 177 _ ⟨b21, 0, none⟩ (.func (.func 114) #[] #[.pointer (some ⟨b5, 0, none⟩)]) rfl (by kernel_rfl) (by rfl) (fun _ _ _ h => h) (by rfl) (fun w hS => run_loadVar_one _ _ _ _ Tryz.underlying177 rfl (hS.1.2.2.2.cell 0)) (.both HT.out trivial) ?_
  simp only [pt, pn, sL]
  refine E_one 12 (by kernel_rfl) (StepE.of 12 (some 19) _ rfl (by rfl) fun o K h2 h3 hKK => ?_)
  unfold Oper.wp execOp
  simp only [h3]
  go_simp
  refine (number_any _ _ _).mono ?_
  rintro e w8 ⟨rfl, rfl⟩
  have hb8 : Below Wd.heap.size Wd (Wd.alloc (.cells #[.int .u64 0] 31)) := (Below.refl _ _).alloc (Nat.le_refl _) _
  have HBX := hide (Blk.new Wd 31 #[.int .u64 0])
  replace HPd := hide (HPd.out.step hb8)
  replace HT := hide (⟨(HPd.out.blk HE.out.e8.1 HE.out.e8.2).1, (HPd.out.blk HE.out.e9.1 HE.out.e9.2).1, (HPd.out.blk HE.out.e6.1 HE.out.e6.2).1, (HPd.out.blk HE.out.e21.1 HE.out.e21.2).1⟩ : Blk (Wd.alloc (.cells #[.int .u64 0] 31)) b8 3 #[.int .i64 a] ∧ Blk (Wd.alloc (.cells #[.int .u64 0] 31)) b9 3 #[.int .i64 b] ∧ Blk (Wd.alloc (.cells #[.int .u64 0] 31)) b6 30 #[.int .i8 op] ∧ Blk (Wd.alloc (.cells #[.int .u64 0] 31)) b21 177 #[.func (.func 114) #[] #[.pointer (some ⟨b5, 0, none⟩)]])
  replace HL := hide (HL.out.trans (hb8.mono HL.out.size))
  clear hb8
  obtain ⟨bx, hbx⟩ : ∃ b, Wd.heap.size = b := ⟨_, rfl⟩
  rw [hbx] at HBX ⊢
  clear hbx
  generalize Wd.alloc (.cells #[.int .u64 0] 31) = w8 at HT HPd HL HBX ⊢
  dsimp only
  refine hKK _ _ (.both HT.out trivial) ?_
  clear hKK h2 h3 K o
  try simp only [pt, pn, sL]
  refine E_one 13 (by kernel_rfl) (StepE.of 13 (some 20) _ rfl (by rfl) fun o K h2 h3 hKK => ?_)
  unfold Oper.wp execOp
  simp only [h3]
  go_simp
  have H := number1_any (F := F) _ zero_u64 b5 bx w8 HPd.out.pool (Nat.le_trans HB.out HPd.out.size) (HPd.out.blk HE.out.e5.1 HE.out.e5.2).1 HBX.out
  rw [HR.out] at H
  refine (then_yes 115 _ _ (RR base g F W r) enters1_1 (H.mono fun e w' q => RR.of (RetP.from HPd.out q))).mono ?_
  clear H
  rintro e w9 ⟨n, m, rfl, hrr⟩
  have HRR := hide hrr
  obtain ⟨_, _, F9, h9⟩ := hrr
  replace HT := hide (⟨(h9.blk HE.out.e8.1 HE.out.e8.2).1, (h9.blk HE.out.e9.1 HE.out.e9.2).1, (h9.blk HE.out.e6.1 HE.out.e6.2).1, (h9.blk HE.out.e21.1 HE.out.e21.2).1⟩ : Blk w9 b8 3 #[.int .i64 a] ∧ Blk w9 b9 3 #[.int .i64 b] ∧ Blk w9 b6 30 #[.int .i8 op] ∧ Blk w9 b21 177 #[.func (.func 114) #[] #[.pointer (some ⟨b5, 0, none⟩)]])
  clear h9 HBX HPd HL
  dsimp only
  refine hKK _ _ (.both HT.out trivial) ?_
  clear hKK h2 h3 K o
  try simp only [pt, pn, sL]
  refine eg 14 (.int .i64 n) (.both HT.out trivial) ?_
  simp only [sL]
  refine eg 15 (.bool true) (.both HT.out trivial) ?_
  simp only [sL]
  refine eg 16 (.int .i64 m) (.both HT.out trivial) ?_
  simp only [sL]
  refine E_one 17 (by kernel_rfl) (StepE.assign 17 (some 4) _ (.int .i64 n) rfl (by rfl) (by rfl) (.both HT.out trivial) ?_)
  simp only [pt, pn, sL]
  refine E_one 18 (by kernel_rfl) (StepE.assign 18 (some 5) _ (.bool true) rfl (by rfl) (by rfl) (.both HT.out trivial) ?_)
  simp only [pt, pn, sL]
  refine E_one 19 (by kernel_rfl) (StepE.assign 19 (some 6) _ (.int .i64 m) rfl (by rfl) (by rfl) (.both HT.out trivial) ?_)
  simp only [pt, pn, sL]
  refine wpAnyE_done (by kernel_rfl) ?_ _
  go_wp2
  exact bodyPost_ret (v := .tuple #[.int .i64 n, .bool true, .int .i64 m]) (by simp [results, Tryz.results134, go_sem]) rfl ⟨n, m, rfl, HRR.out⟩
set_option maxHeartbeats 8000000 in
theorem law12_no (hE : OpE g op x a b c d lf rt tn sh b5 b6 b7 b8 b9 b15 b17 b18 b19 b20 b21 b22 b23 b24 F W) (hp : PoolAt W base F g p) (hf : (a == b && (op == 5 || op == 4)) = false) :
  Calls Tryz.prog 135 #[.pointer (some ⟨b8, 0, none⟩), .pointer (some ⟨b9, 0, none⟩), .pointer (some ⟨b6, 0, none⟩), .pointer (some ⟨b22, 0, none⟩)] W (fun e w' => e = .returned (.tuple #[.int .i64 0, .bool false, .int .i64 0]) ∧ Below W.heap.size W w') := by
 cases hab : (a == b)
 ·clear hf
  have HE := hide hE
  have HP := hide hp
  have HP0 := hide (PG.refl hp)
  have HL0 := hide (Below.refl W.heap.size W)
  clear hE hp
  go_enter Tryz.func135, Tryz.ntmps135
  go_upto_region 1 with fail
  refine wp_region_E (fun w' => Blk w' b8 3 #[.int .i64 a] ∧ Blk w' b9 3 #[.int .i64 b] ∧ Blk w' b6 30 #[.int .i8 op] ∧ Blk w' b22 179 #[.func (.func 116) #[] #[.pointer (some ⟨b15, 0, none⟩), .pointer (some ⟨b7, 0, none⟩)]]) (fun _ => True) [] (by kernel_rfl) ?_
  have HPd := hide (HP0.out.step ((Below.refl _ _).drew))
  have HL := hide (HL0.out.trans (((Below.refl _ _).drew).mono HL0.out.size))
  have HT := hide (⟨(HPd.out.blk HE.out.e8.1 HE.out.e8.2).1, (HPd.out.blk HE.out.e9.1 HE.out.e9.2).1, (HPd.out.blk HE.out.e6.1 HE.out.e6.2).1, (HPd.out.blk HE.out.e22.1 HE.out.e22.2).1⟩ : Blk W.drew b8 3 #[.int .i64 a] ∧ Blk W.drew b9 3 #[.int .i64 b] ∧ Blk W.drew b6 30 #[.int .i8 op] ∧ Blk W.drew b22 179 #[.func (.func 116) #[] #[.pointer (some ⟨b15, 0, none⟩), .pointer (some ⟨b7, 0, none⟩)]])
  clear HP0 HL0
  generalize W.drew = Wd at HT HPd HL ⊢
  refine el false 0 ⟨b8, 0, none⟩ (.int .i64 a) Tryz.underlying3 (fun w hS => (hS.1.1.cell 0)) (.both HT.out trivial) ?_
  simp only [sL]
  refine el false 1 ⟨b9, 0, none⟩ (.int .i64 b) Tryz.underlying3 (fun w hS => (hS.1.2.1.cell 0)) (.both HT.out trivial) ?_
  simp only [sL]
  refine eg 2 (.bool false) (.both HT.out trivial) ?_
  simp only [sL]
  refine em 3 (.bool false) (.both HT.out trivial) ?_
  simp only [sL]
  refine en 4 (.both HT.out trivial) ?_
  simp only [sL]
  refine en 5 (.both HT.out trivial) ?_
  simp only [sL]
  refine en 6 (.both HT.out trivial) ?_
  simp only [sL]
  refine en 7 (.both HT.out trivial) ?_
  simp only [sL]
  refine en 8 (.both HT.out trivial) ?_
  simp only [sL]
  refine en 9 (.both HT.out trivial) ?_
  simp only [sL]
  refine ep 10 false (.bool false) (.both HT.out trivial) ?_
  simp only [sL]
  refine E_load1 false 11 (some 18) 179 _ ⟨b22, 0, none⟩ (.func (.func 116) #[] #[.pointer (some ⟨b15, 0, none⟩), .pointer (some ⟨b7, 0, none⟩)]) rfl (by kernel_rfl) (by rfl) (fun _ _ _ h => h) (by rfl) (fun w hS => run_loadVar_one _ _ _ _ Tryz.underlying179 rfl (hS.1.2.2.2.cell 0)) (.both HT.out trivial) ?_
  simp only [pt, pn, sL]
  refine el false 12 ⟨b8, 0, none⟩ (.int .i64 a) Tryz.underlying3 (fun w hS => (hS.1.1.cell 0)) (.both HT.out trivial) ?_
  simp only [sL]
  refine E_one 13 (by kernel_rfl) (StepE.of 13 (some 20) _ rfl (by rfl) fun o K h2 h3 hKK => ?_)
  unfold Oper.wp execOp
  simp only [h3]
  go_simp
  refine (as_any _ _ _ _).mono ?_
  rintro e w8 ⟨rfl, rfl⟩
  have hb8 : Below Wd.heap.size Wd (Wd.alloc (.cells #[.int .i64 a] 3)) := (Below.refl _ _).alloc (Nat.le_refl _) _
  have HBX := hide (Blk.new Wd 3 #[.int .i64 a])
  replace HPd := hide (HPd.out.step hb8)
  replace HT := hide (⟨(HPd.out.blk HE.out.e8.1 HE.out.e8.2).1, (HPd.out.blk HE.out.e9.1 HE.out.e9.2).1, (HPd.out.blk HE.out.e6.1 HE.out.e6.2).1, (HPd.out.blk HE.out.e22.1 HE.out.e22.2).1⟩ : Blk (Wd.alloc (.cells #[.int .i64 a] 3)) b8 3 #[.int .i64 a] ∧ Blk (Wd.alloc (.cells #[.int .i64 a] 3)) b9 3 #[.int .i64 b] ∧ Blk (Wd.alloc (.cells #[.int .i64 a] 3)) b6 30 #[.int .i8 op] ∧ Blk (Wd.alloc (.cells #[.int .i64 a] 3)) b22 179 #[.func (.func 116) #[] #[.pointer (some ⟨b15, 0, none⟩), .pointer (some ⟨b7, 0, none⟩)]])
  replace HL := hide (HL.out.trans (hb8.mono HL.out.size))
  clear hb8
  obtain ⟨bx, hbx⟩ : ∃ b, Wd.heap.size = b := ⟨_, rfl⟩
  rw [hbx] at HBX ⊢
  clear hbx
  generalize Wd.alloc (.cells #[.int .i64 a] 3) = w8 at HT HPd HL HBX ⊢
  dsimp only
  refine hKK _ _ (.both HT.out trivial) ?_
  clear hKK h2 h3 K o
  try simp only [pt, pn, sL]
  refine E_one 14 (by kernel_rfl) (StepE.of 14 (some 21) _ rfl (by rfl) fun o K h2 h3 hKK => ?_)
  unfold Oper.wp execOp
  simp only [h3]
  go_simp
  refine (then_no _ _).mono ?_
  rintro e w9 ⟨rfl, rfl⟩
  dsimp only
  refine hKK _ _ (.both HT.out trivial) ?_
  clear hKK h2 h3 K o
  try simp only [pt, pn, sL]
  refine eg 15 (.int .i64 0) (.both HT.out trivial) ?_
  simp only [sL]
  refine eg 16 (.bool false) (.both HT.out trivial) ?_
  simp only [sL]
  refine eg 17 (.int .i64 0) (.both HT.out trivial) ?_
  simp only [sL]
  refine E_one 18 (by kernel_rfl) (StepE.assign 18 (some 4) _ (.int .i64 0) rfl (by rfl) (by rfl) (.both HT.out trivial) ?_)
  simp only [pt, pn, sL]
  refine E_one 19 (by kernel_rfl) (StepE.assign 19 (some 5) _ (.bool false) rfl (by rfl) (by rfl) (.both HT.out trivial) ?_)
  simp only [pt, pn, sL]
  refine E_one 20 (by kernel_rfl) (StepE.assign 20 (some 6) _ (.int .i64 0) rfl (by rfl) (by rfl) (.both HT.out trivial) ?_)
  simp only [pt, pn, sL]
  refine wpAnyE_done (by kernel_rfl) ?_ _
  go_wp2
  exact bodyPost_ret (v := .tuple #[.int .i64 0, .bool false, .int .i64 0]) (by simp [results, Tryz.results135, go_sem]) rfl ⟨rfl, HL.out⟩
 ·have h1 : (op == 5) = false := by revert hf; rw [hab]; cases (op == 5) <;> simp
  have h2 : (op == 4) = false := by revert hf; rw [hab]; cases (op == 4) <;> simp
  clear hf
  have HE := hide hE
  have HP := hide hp
  have HP0 := hide (PG.refl hp)
  have HL0 := hide (Below.refl W.heap.size W)
  clear hE hp
  go_enter Tryz.func135, Tryz.ntmps135
  go_upto_region 1 with fail
  refine wp_region_E (fun w' => Blk w' b8 3 #[.int .i64 a] ∧ Blk w' b9 3 #[.int .i64 b] ∧ Blk w' b6 30 #[.int .i8 op] ∧ Blk w' b22 179 #[.func (.func 116) #[] #[.pointer (some ⟨b15, 0, none⟩), .pointer (some ⟨b7, 0, none⟩)]]) (fun _ => True) [] (by kernel_rfl) ?_
  have HPd := hide (HP0.out.step ((Below.refl _ _).drew))
  have HL := hide (HL0.out.trans (((Below.refl _ _).drew).mono HL0.out.size))
  have HT := hide (⟨(HPd.out.blk HE.out.e8.1 HE.out.e8.2).1, (HPd.out.blk HE.out.e9.1 HE.out.e9.2).1, (HPd.out.blk HE.out.e6.1 HE.out.e6.2).1, (HPd.out.blk HE.out.e22.1 HE.out.e22.2).1⟩ : Blk W.drew b8 3 #[.int .i64 a] ∧ Blk W.drew b9 3 #[.int .i64 b] ∧ Blk W.drew b6 30 #[.int .i8 op] ∧ Blk W.drew b22 179 #[.func (.func 116) #[] #[.pointer (some ⟨b15, 0, none⟩), .pointer (some ⟨b7, 0, none⟩)]])
  clear HP0 HL0
  generalize W.drew = Wd at HT HPd HL ⊢
  refine el false 0 ⟨b8, 0, none⟩ (.int .i64 a) Tryz.underlying3 (fun w hS => (hS.1.1.cell 0)) (.both HT.out trivial) ?_
  simp only [sL]
  refine el false 1 ⟨b9, 0, none⟩ (.int .i64 b) Tryz.underlying3 (fun w hS => (hS.1.2.1.cell 0)) (.both HT.out trivial) ?_
  simp only [sL]
  refine eg 2 (.bool true) (.both HT.out trivial) ?_
  simp only [sL]
  refine em 3 (.bool true) (.both HT.out trivial) ?_
  simp only [sL]
  refine el false 4 ⟨b6, 0, none⟩ (.int .i8 op) Tryz.underlying30 (fun w hS => (hS.1.2.2.1.cell 0)) (.both HT.out trivial) ?_
  simp only [sL]
  refine eg 5 (.bool false) (.both HT.out trivial) ?_
  simp only [sL]
  refine em 6 (.bool false) (.both HT.out trivial) ?_
  simp only [sL]
  refine el false 7 ⟨b6, 0, none⟩ (.int .i8 op) Tryz.underlying30 (fun w hS => (hS.1.2.2.1.cell 0)) (.both HT.out trivial) ?_
  simp only [sL]
  refine eg 8 (.bool false) (.both HT.out trivial) ?_
  simp only [sL]
  refine ep 9 false (.bool false) (.both HT.out trivial) ?_
  simp only [sL]
  refine ep 10 true (.bool false) (.both HT.out trivial) ?_
  simp only [sL]
  refine E_load1 false 11 (some 18) 179 _ ⟨b22, 0, none⟩ (.func (.func 116) #[] #[.pointer (some ⟨b15, 0, none⟩), .pointer (some ⟨b7, 0, none⟩)]) rfl (by kernel_rfl) (by rfl) (fun _ _ _ h => h) (by rfl) (fun w hS => run_loadVar_one _ _ _ _ Tryz.underlying179 rfl (hS.1.2.2.2.cell 0)) (.both HT.out trivial) ?_
  simp only [pt, pn, sL]
  refine el false 12 ⟨b8, 0, none⟩ (.int .i64 a) Tryz.underlying3 (fun w hS => (hS.1.1.cell 0)) (.both HT.out trivial) ?_
  simp only [sL]
  refine E_one 13 (by kernel_rfl) (StepE.of 13 (some 20) _ rfl (by rfl) fun o K h2 h3 hKK => ?_)
  unfold Oper.wp execOp
  simp only [h3]
  go_simp
  refine (as_any _ _ _ _).mono ?_
  rintro e w8 ⟨rfl, rfl⟩
  have hb8 : Below Wd.heap.size Wd (Wd.alloc (.cells #[.int .i64 a] 3)) := (Below.refl _ _).alloc (Nat.le_refl _) _
  have HBX := hide (Blk.new Wd 3 #[.int .i64 a])
  replace HPd := hide (HPd.out.step hb8)
  replace HT := hide (⟨(HPd.out.blk HE.out.e8.1 HE.out.e8.2).1, (HPd.out.blk HE.out.e9.1 HE.out.e9.2).1, (HPd.out.blk HE.out.e6.1 HE.out.e6.2).1, (HPd.out.blk HE.out.e22.1 HE.out.e22.2).1⟩ : Blk (Wd.alloc (.cells #[.int .i64 a] 3)) b8 3 #[.int .i64 a] ∧ Blk (Wd.alloc (.cells #[.int .i64 a] 3)) b9 3 #[.int .i64 b] ∧ Blk (Wd.alloc (.cells #[.int .i64 a] 3)) b6 30 #[.int .i8 op] ∧ Blk (Wd.alloc (.cells #[.int .i64 a] 3)) b22 179 #[.func (.func 116) #[] #[.pointer (some ⟨b15, 0, none⟩), .pointer (some ⟨b7, 0, none⟩)]])
  replace HL := hide (HL.out.trans (hb8.mono HL.out.size))
  clear hb8
  obtain ⟨bx, hbx⟩ : ∃ b, Wd.heap.size = b := ⟨_, rfl⟩
  rw [hbx] at HBX ⊢
  clear hbx
  generalize Wd.alloc (.cells #[.int .i64 a] 3) = w8 at HT HPd HL HBX ⊢
  dsimp only
  refine hKK _ _ (.both HT.out trivial) ?_
  clear hKK h2 h3 K o
  try simp only [pt, pn, sL]
  refine E_one 14 (by kernel_rfl) (StepE.of 14 (some 21) _ rfl (by rfl) fun o K h2 h3 hKK => ?_)
  unfold Oper.wp execOp
  simp only [h3]
  go_simp
  refine (then_no _ _).mono ?_
  rintro e w9 ⟨rfl, rfl⟩
  dsimp only
  refine hKK _ _ (.both HT.out trivial) ?_
  clear hKK h2 h3 K o
  try simp only [pt, pn, sL]
  refine eg 15 (.int .i64 0) (.both HT.out trivial) ?_
  simp only [sL]
  refine eg 16 (.bool false) (.both HT.out trivial) ?_
  simp only [sL]
  refine eg 17 (.int .i64 0) (.both HT.out trivial) ?_
  simp only [sL]
  refine E_one 18 (by kernel_rfl) (StepE.assign 18 (some 4) _ (.int .i64 0) rfl (by rfl) (by rfl) (.both HT.out trivial) ?_)
  simp only [pt, pn, sL]
  refine E_one 19 (by kernel_rfl) (StepE.assign 19 (some 5) _ (.bool false) rfl (by rfl) (by rfl) (.both HT.out trivial) ?_)
  simp only [pt, pn, sL]
  refine E_one 20 (by kernel_rfl) (StepE.assign 20 (some 6) _ (.int .i64 0) rfl (by rfl) (by rfl) (.both HT.out trivial) ?_)
  simp only [pt, pn, sL]
  refine wpAnyE_done (by kernel_rfl) ?_ _
  go_wp2
  exact bodyPost_ret (v := .tuple #[.int .i64 0, .bool false, .int .i64 0]) (by simp [results, Tryz.results135, go_sem]) rfl ⟨rfl, HL.out⟩
set_option maxHeartbeats 8000000 in
theorem law12_yes (hE : OpE g op x a b c d lf rt tn sh b5 b6 b7 b8 b9 b15 b17 b18 b19 b20 b21 b22 b23 b24 F W) (hp : PoolAt W base F g p) (hbase : base ≤ W.heap.size) (hx : x = 8 ∨ x = 16 ∨ x = 32 ∨ x = 64) (hn : I64 a) (hr : zextF f p x a = some r) (hf : (a == b && (op == 5 || op == 4)) = true) :
  Calls Tryz.prog 135 #[.pointer (some ⟨b8, 0, none⟩), .pointer (some ⟨b9, 0, none⟩), .pointer (some ⟨b6, 0, none⟩), .pointer (some ⟨b22, 0, none⟩)] W (fun e w' => ∃ n m, e = .returned (.tuple #[.int .i64 n, .bool true, .int .i64 m]) ∧ RR base g F W r n m w') := by
 have HB := hide hbase
 have HR := hide hr
 have HX := hide hx
 have HN := hide hn
 clear hx hn
 clear hbase hr
 have hab : (a == b) = true := by revert hf; cases (a == b) <;> simp
 cases h1 : (op == 5)
 ·have h2 : (op == 4) = true := by revert hf; rw [hab, h1]; simp
  clear hf
  have HE := hide hE
  have HP := hide hp
  have HP0 := hide (PG.refl hp)
  have HL0 := hide (Below.refl W.heap.size W)
  clear hE hp
  go_enter Tryz.func135, Tryz.ntmps135
  go_upto_region 1 with fail
  refine wp_region_E (fun w' => Blk w' b8 3 #[.int .i64 a] ∧ Blk w' b9 3 #[.int .i64 b] ∧ Blk w' b6 30 #[.int .i8 op] ∧ Blk w' b22 179 #[.func (.func 116) #[] #[.pointer (some ⟨b15, 0, none⟩), .pointer (some ⟨b7, 0, none⟩)]]) (fun _ => True) [] (by kernel_rfl) ?_
  have HPd := hide (HP0.out.step ((Below.refl _ _).drew))
  have HL := hide (HL0.out.trans (((Below.refl _ _).drew).mono HL0.out.size))
  have HT := hide (⟨(HPd.out.blk HE.out.e8.1 HE.out.e8.2).1, (HPd.out.blk HE.out.e9.1 HE.out.e9.2).1, (HPd.out.blk HE.out.e6.1 HE.out.e6.2).1, (HPd.out.blk HE.out.e22.1 HE.out.e22.2).1⟩ : Blk W.drew b8 3 #[.int .i64 a] ∧ Blk W.drew b9 3 #[.int .i64 b] ∧ Blk W.drew b6 30 #[.int .i8 op] ∧ Blk W.drew b22 179 #[.func (.func 116) #[] #[.pointer (some ⟨b15, 0, none⟩), .pointer (some ⟨b7, 0, none⟩)]])
  clear HP0 HL0
  generalize W.drew = Wd at HT HPd HL ⊢
  refine el false 0 ⟨b8, 0, none⟩ (.int .i64 a) Tryz.underlying3 (fun w hS => (hS.1.1.cell 0)) (.both HT.out trivial) ?_
  simp only [sL]
  refine el false 1 ⟨b9, 0, none⟩ (.int .i64 b) Tryz.underlying3 (fun w hS => (hS.1.2.1.cell 0)) (.both HT.out trivial) ?_
  simp only [sL]
  refine eg 2 (.bool true) (.both HT.out trivial) ?_
  simp only [sL]
  refine em 3 (.bool true) (.both HT.out trivial) ?_
  simp only [sL]
  refine el false 4 ⟨b6, 0, none⟩ (.int .i8 op) Tryz.underlying30 (fun w hS => (hS.1.2.2.1.cell 0)) (.both HT.out trivial) ?_
  simp only [sL]
  refine eg 5 (.bool false) (.both HT.out trivial) ?_
  simp only [sL]
  refine em 6 (.bool false) (.both HT.out trivial) ?_
  simp only [sL]
  refine el false 7 ⟨b6, 0, none⟩ (.int .i8 op) Tryz.underlying30 (fun w hS => (hS.1.2.2.1.cell 0)) (.both HT.out trivial) ?_
  simp only [sL]
  refine eg 8 (.bool true) (.both HT.out trivial) ?_
  simp only [sL]
  refine ep 9 false (.bool true) (.both HT.out trivial) ?_
  simp only [sL]
  refine ep 10 true (.bool true) (.both HT.out trivial) ?_
  simp only [sL]
  refine E_load1 false 11 (some 18) 179 _ ⟨b22, 0, none⟩ (.func (.func 116) #[] #[.pointer (some ⟨b15, 0, none⟩), .pointer (some ⟨b7, 0, none⟩)]) rfl (by kernel_rfl) (by rfl) (fun _ _ _ h => h) (by rfl) (fun w hS => run_loadVar_one _ _ _ _ Tryz.underlying179 rfl (hS.1.2.2.2.cell 0)) (.both HT.out trivial) ?_
  simp only [pt, pn, sL]
  refine el false 12 ⟨b8, 0, none⟩ (.int .i64 a) Tryz.underlying3 (fun w hS => (hS.1.1.cell 0)) (.both HT.out trivial) ?_
  simp only [sL]
  refine E_one 13 (by kernel_rfl) (StepE.of 13 (some 20) _ rfl (by rfl) fun o K h2 h3 hKK => ?_)
  unfold Oper.wp execOp
  simp only [h3]
  go_simp
  refine (as_any _ _ _ _).mono ?_
  rintro e w8 ⟨rfl, rfl⟩
  have hb8 : Below Wd.heap.size Wd (Wd.alloc (.cells #[.int .i64 a] 3)) := (Below.refl _ _).alloc (Nat.le_refl _) _
  have HBX := hide (Blk.new Wd 3 #[.int .i64 a])
  replace HPd := hide (HPd.out.step hb8)
  replace HT := hide (⟨(HPd.out.blk HE.out.e8.1 HE.out.e8.2).1, (HPd.out.blk HE.out.e9.1 HE.out.e9.2).1, (HPd.out.blk HE.out.e6.1 HE.out.e6.2).1, (HPd.out.blk HE.out.e22.1 HE.out.e22.2).1⟩ : Blk (Wd.alloc (.cells #[.int .i64 a] 3)) b8 3 #[.int .i64 a] ∧ Blk (Wd.alloc (.cells #[.int .i64 a] 3)) b9 3 #[.int .i64 b] ∧ Blk (Wd.alloc (.cells #[.int .i64 a] 3)) b6 30 #[.int .i8 op] ∧ Blk (Wd.alloc (.cells #[.int .i64 a] 3)) b22 179 #[.func (.func 116) #[] #[.pointer (some ⟨b15, 0, none⟩), .pointer (some ⟨b7, 0, none⟩)]])
  replace HL := hide (HL.out.trans (hb8.mono HL.out.size))
  clear hb8
  obtain ⟨bx, hbx⟩ : ∃ b, Wd.heap.size = b := ⟨_, rfl⟩
  rw [hbx] at HBX ⊢
  clear hbx
  generalize Wd.alloc (.cells #[.int .i64 a] 3) = w8 at HT HPd HL HBX ⊢
  dsimp only
  refine hKK _ _ (.both HT.out trivial) ?_
  clear hKK h2 h3 K o
  try simp only [pt, pn, sL]
  refine E_one 14 (by kernel_rfl) (StepE.of 14 (some 21) _ rfl (by rfl) fun o K h2 h3 hKK => ?_)
  unfold Oper.wp execOp
  simp only [h3]
  go_simp
  have H := as1_any (F := F) x _ HX.out HN.out f r HR.out b15 b7 bx w8 HPd.out.pool (Nat.le_trans HB.out HPd.out.size) (HPd.out.blk HE.out.e15.1 HE.out.e15.2).1 (HPd.out.blk HE.out.e7.1 HE.out.e7.2).1 HBX.out
  refine (then_yes 117 _ _ (RR base g F W r) enters2_1 (H.mono fun e w' q => RR.of (RetP.from HPd.out q))).mono ?_
  clear H
  rintro e w9 ⟨n, m, rfl, hrr⟩
  have HRR := hide hrr
  obtain ⟨_, _, F9, h9⟩ := hrr
  replace HT := hide (⟨(h9.blk HE.out.e8.1 HE.out.e8.2).1, (h9.blk HE.out.e9.1 HE.out.e9.2).1, (h9.blk HE.out.e6.1 HE.out.e6.2).1, (h9.blk HE.out.e22.1 HE.out.e22.2).1⟩ : Blk w9 b8 3 #[.int .i64 a] ∧ Blk w9 b9 3 #[.int .i64 b] ∧ Blk w9 b6 30 #[.int .i8 op] ∧ Blk w9 b22 179 #[.func (.func 116) #[] #[.pointer (some ⟨b15, 0, none⟩), .pointer (some ⟨b7, 0, none⟩)]])
  clear h9 HBX HPd HL
  dsimp only
  refine hKK _ _ (.both HT.out trivial) ?_
  clear hKK h2 h3 K o
  try simp only [pt, pn, sL]
  refine eg 15 (.int .i64 n) (.both HT.out trivial) ?_
  simp only [sL]
  refine eg 16 (.bool true) (.both HT.out trivial) ?_
  simp only [sL]
  refine eg 17 (.int .i64 m) (.both HT.out trivial) ?_
  simp only [sL]
  refine E_one 18 (by kernel_rfl) (StepE.assign 18 (some 4) _ (.int .i64 n) rfl (by rfl) (by rfl) (.both HT.out trivial) ?_)
  simp only [pt, pn, sL]
  refine E_one 19 (by kernel_rfl) (StepE.assign 19 (some 5) _ (.bool true) rfl (by rfl) (by rfl) (.both HT.out trivial) ?_)
  simp only [pt, pn, sL]
  refine E_one 20 (by kernel_rfl) (StepE.assign 20 (some 6) _ (.int .i64 m) rfl (by rfl) (by rfl) (.both HT.out trivial) ?_)
  simp only [pt, pn, sL]
  refine wpAnyE_done (by kernel_rfl) ?_ _
  go_wp2
  exact bodyPost_ret (v := .tuple #[.int .i64 n, .bool true, .int .i64 m]) (by simp [results, Tryz.results135, go_sem]) rfl ⟨n, m, rfl, HRR.out⟩
 ·clear hf
  have HE := hide hE
  have HP := hide hp
  have HP0 := hide (PG.refl hp)
  have HL0 := hide (Below.refl W.heap.size W)
  clear hE hp
  go_enter Tryz.func135, Tryz.ntmps135
  go_upto_region 1 with fail
  refine wp_region_E (fun w' => Blk w' b8 3 #[.int .i64 a] ∧ Blk w' b9 3 #[.int .i64 b] ∧ Blk w' b6 30 #[.int .i8 op] ∧ Blk w' b22 179 #[.func (.func 116) #[] #[.pointer (some ⟨b15, 0, none⟩), .pointer (some ⟨b7, 0, none⟩)]]) (fun _ => True) [] (by kernel_rfl) ?_
  have HPd := hide (HP0.out.step ((Below.refl _ _).drew))
  have HL := hide (HL0.out.trans (((Below.refl _ _).drew).mono HL0.out.size))
  have HT := hide (⟨(HPd.out.blk HE.out.e8.1 HE.out.e8.2).1, (HPd.out.blk HE.out.e9.1 HE.out.e9.2).1, (HPd.out.blk HE.out.e6.1 HE.out.e6.2).1, (HPd.out.blk HE.out.e22.1 HE.out.e22.2).1⟩ : Blk W.drew b8 3 #[.int .i64 a] ∧ Blk W.drew b9 3 #[.int .i64 b] ∧ Blk W.drew b6 30 #[.int .i8 op] ∧ Blk W.drew b22 179 #[.func (.func 116) #[] #[.pointer (some ⟨b15, 0, none⟩), .pointer (some ⟨b7, 0, none⟩)]])
  clear HP0 HL0
  generalize W.drew = Wd at HT HPd HL ⊢
  refine el false 0 ⟨b8, 0, none⟩ (.int .i64 a) Tryz.underlying3 (fun w hS => (hS.1.1.cell 0)) (.both HT.out trivial) ?_
  simp only [sL]
  refine el false 1 ⟨b9, 0, none⟩ (.int .i64 b) Tryz.underlying3 (fun w hS => (hS.1.2.1.cell 0)) (.both HT.out trivial) ?_
  simp only [sL]
  refine eg 2 (.bool true) (.both HT.out trivial) ?_
  simp only [sL]
  refine em 3 (.bool true) (.both HT.out trivial) ?_
  simp only [sL]
  refine el false 4 ⟨b6, 0, none⟩ (.int .i8 op) Tryz.underlying30 (fun w hS => (hS.1.2.2.1.cell 0)) (.both HT.out trivial) ?_
  simp only [sL]
  refine eg 5 (.bool true) (.both HT.out trivial) ?_
  simp only [sL]
  refine em 6 (.bool true) (.both HT.out trivial) ?_
  simp only [sL]
  refine en 7 (.both HT.out trivial) ?_
  simp only [sL]
  refine en 8 (.both HT.out trivial) ?_
  simp only [sL]
  refine ep 9 true (.bool true) (.both HT.out trivial) ?_
  simp only [sL]
  refine ep 10 true (.bool true) (.both HT.out trivial) ?_
  simp only [sL]
  refine E_load1 false 11 (some 18) 179 _ ⟨b22, 0, none⟩ (.func (.func 116) #[] #[.pointer (some ⟨b15, 0, none⟩), .pointer (some ⟨b7, 0, none⟩)]) rfl (by kernel_rfl) (by rfl) (fun _ _ _ h => h) (by rfl) (fun w hS => run_loadVar_one _ _ _ _ Tryz.underlying179 rfl (hS.1.2.2.2.cell 0)) (.both HT.out trivial) ?_
  simp only [pt, pn, sL]
  refine el false 12 ⟨b8, 0, none⟩ (.int .i64 a) Tryz.underlying3 (fun w hS => (hS.1.1.cell 0)) (.both HT.out trivial) ?_
  simp only [sL]
  refine E_one 13 (by kernel_rfl) (StepE.of 13 (some 20) _ rfl (by rfl) fun o K h2 h3 hKK => ?_)
  unfold Oper.wp execOp
  simp only [h3]
  go_simp
  refine (as_any _ _ _ _).mono ?_
  rintro e w8 ⟨rfl, rfl⟩
  have hb8 : Below Wd.heap.size Wd (Wd.alloc (.cells #[.int .i64 a] 3)) := (Below.refl _ _).alloc (Nat.le_refl _) _
  have HBX := hide (Blk.new Wd 3 #[.int .i64 a])
  replace HPd := hide (HPd.out.step hb8)
  replace HT := hide (⟨(HPd.out.blk HE.out.e8.1 HE.out.e8.2).1, (HPd.out.blk HE.out.e9.1 HE.out.e9.2).1, (HPd.out.blk HE.out.e6.1 HE.out.e6.2).1, (HPd.out.blk HE.out.e22.1 HE.out.e22.2).1⟩ : Blk (Wd.alloc (.cells #[.int .i64 a] 3)) b8 3 #[.int .i64 a] ∧ Blk (Wd.alloc (.cells #[.int .i64 a] 3)) b9 3 #[.int .i64 b] ∧ Blk (Wd.alloc (.cells #[.int .i64 a] 3)) b6 30 #[.int .i8 op] ∧ Blk (Wd.alloc (.cells #[.int .i64 a] 3)) b22 179 #[.func (.func 116) #[] #[.pointer (some ⟨b15, 0, none⟩), .pointer (some ⟨b7, 0, none⟩)]])
  replace HL := hide (HL.out.trans (hb8.mono HL.out.size))
  clear hb8
  obtain ⟨bx, hbx⟩ : ∃ b, Wd.heap.size = b := ⟨_, rfl⟩
  rw [hbx] at HBX ⊢
  clear hbx
  generalize Wd.alloc (.cells #[.int .i64 a] 3) = w8 at HT HPd HL HBX ⊢
  dsimp only
  refine hKK _ _ (.both HT.out trivial) ?_
  clear hKK h2 h3 K o
  try simp only [pt, pn, sL]
  refine E_one 14 (by kernel_rfl) (StepE.of 14 (some 21) _ rfl (by rfl) fun o K h2 h3 hKK => ?_)
  unfold Oper.wp execOp
  simp only [h3]
  go_simp
  have H := as1_any (F := F) x _ HX.out HN.out f r HR.out b15 b7 bx w8 HPd.out.pool (Nat.le_trans HB.out HPd.out.size) (HPd.out.blk HE.out.e15.1 HE.out.e15.2).1 (HPd.out.blk HE.out.e7.1 HE.out.e7.2).1 HBX.out
  refine (then_yes 117 _ _ (RR base g F W r) enters2_1 (H.mono fun e w' q => RR.of (RetP.from HPd.out q))).mono ?_
  clear H
  rintro e w9 ⟨n, m, rfl, hrr⟩
  have HRR := hide hrr
  obtain ⟨_, _, F9, h9⟩ := hrr
  replace HT := hide (⟨(h9.blk HE.out.e8.1 HE.out.e8.2).1, (h9.blk HE.out.e9.1 HE.out.e9.2).1, (h9.blk HE.out.e6.1 HE.out.e6.2).1, (h9.blk HE.out.e22.1 HE.out.e22.2).1⟩ : Blk w9 b8 3 #[.int .i64 a] ∧ Blk w9 b9 3 #[.int .i64 b] ∧ Blk w9 b6 30 #[.int .i8 op] ∧ Blk w9 b22 179 #[.func (.func 116) #[] #[.pointer (some ⟨b15, 0, none⟩), .pointer (some ⟨b7, 0, none⟩)]])
  clear h9 HBX HPd HL
  dsimp only
  refine hKK _ _ (.both HT.out trivial) ?_
  clear hKK h2 h3 K o
  try simp only [pt, pn, sL]
  refine eg 15 (.int .i64 n) (.both HT.out trivial) ?_
  simp only [sL]
  refine eg 16 (.bool true) (.both HT.out trivial) ?_
  simp only [sL]
  refine eg 17 (.int .i64 m) (.both HT.out trivial) ?_
  simp only [sL]
  refine E_one 18 (by kernel_rfl) (StepE.assign 18 (some 4) _ (.int .i64 n) rfl (by rfl) (by rfl) (.both HT.out trivial) ?_)
  simp only [pt, pn, sL]
  refine E_one 19 (by kernel_rfl) (StepE.assign 19 (some 5) _ (.bool true) rfl (by rfl) (by rfl) (.both HT.out trivial) ?_)
  simp only [pt, pn, sL]
  refine E_one 20 (by kernel_rfl) (StepE.assign 20 (some 6) _ (.int .i64 m) rfl (by rfl) (by rfl) (.both HT.out trivial) ?_)
  simp only [pt, pn, sL]
  refine wpAnyE_done (by kernel_rfl) ?_ _
  go_wp2
  exact bodyPost_ret (v := .tuple #[.int .i64 n, .bool true, .int .i64 m]) (by simp [results, Tryz.results135, go_sem]) rfl ⟨n, m, rfl, HRR.out⟩
end
end Go.Proofs.YtepagfkkjlbipaaGreat
