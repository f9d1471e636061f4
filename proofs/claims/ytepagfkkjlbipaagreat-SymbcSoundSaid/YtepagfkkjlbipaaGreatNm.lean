/-
  Contracts of Op's law 8 (two sums made one) and of what it does. Conditions: those written in each statement.
-/
import Derived.Test.YtepagfkkjlbipaaGreatKao
set_option linter.unusedVariables false
set_option linter.unusedSimpArgs false
set_option maxHeartbeats 64000000
set_option maxRecDepth 100000
namespace Go.Proofs.YtepagfkkjlbipaaGreat
open Tryz
open Go.RowKit
section
variable {base f g : Nat} {op x a b c d : Int} {lf rt tn sh : Bool} {b5 b6 b7 b8 b9 b15 b17 b18 b19 b20 b21 b22 b23 b24 : Nat} {F : Nat → Prop} {W : World} {p : PS} {r : RS}
theorem op8_do (hE : OpE g op x a b c d lf rt tn sh b5 b6 b7 b8 b9 b15 b17 b18 b19 b20 b21 b22 b23 b24 F W) (hp : PoolAt W base F g p) (hbase : base ≤ W.heap.size) (hIH : OpC base g f) {s : TD} {n : Int} {bn bt : Nat} (hsa : I64 s.a) (hBn : Blk W bn 31 #[.int .u64 n] ∧ ¬ F bn) (hBt : Blk W bt 147 s.cells.toArray ∧ ¬ F bt) (hr : bindR (putR p (constT (cutV x (IntKind.u64.wrap (n + d))))) (fun q z => opF f q 0 x s.a z) = some r) :
  Calls prog 131 #[.pointer (some ⟨b5, 0, none⟩), .pointer (some ⟨bn, 0, none⟩), .pointer (some ⟨b19, 0, none⟩), .pointer (some ⟨b7, 0, none⟩), .pointer (some ⟨bt, 0, none⟩)] W (RetP base g F W r) := by
 have HZI0 := putN_i64 hp.wf (constT (cutV x (IntKind.u64.wrap (n + d))))
 obtain ⟨q, hq⟩ : ∃ q, putR p (constT (cutV x (IntKind.u64.wrap (n + d)))) = q := ⟨_, rfl⟩
 rw [show (putN p (constT (cutV x (IntKind.u64.wrap (n + d))))).1 = q.2.1 by rw [← hq]; rfl] at HZI0
 have HC0 : ∀ (W : World) (F : Nat → Prop) (h : PoolAt W base F g p) (hb : base ≤ W.heap.size), Calls prog 39 #[.pointer (some ⟨g, 0, none⟩), .int .u64 (cutV x (IntKind.u64.wrap (n + d)))] W (RetP base g F W q) := fun W F h hb => by
  have := const_any (cutV x (IntKind.u64.wrap (n + d))) (cutV_u64 (by unfold U64; rw [IntKind.wrap_u64]; omega)) W h hb
  rw [hq] at this
  exact this
 rw [hq] at hr
 obtain ⟨p1, z, er⟩ := q
 dsimp only at HZI0 HC0
 have HC := Hd HC0
 have HZI := Hd HZI0
 have HR := Hd hr
 have HIH := Hd hIH
 have HBN := Hd hBn
 have HBT := Hd hBt
 have HE := Hd hE
 have HT := Hd (⟨hE.e5.1, hBn.1, hE.e19.1, hE.e7.1⟩ : Blk W.drew b5 50 #[.pointer (some ⟨g, 0, none⟩)] ∧ Blk W.drew bn 31 #[.int .u64 n] ∧ Blk W.drew b19 31 #[.int .u64 d] ∧ Blk W.drew b7 30 #[.int .i8 x])
 have HPd := Hd (PG.of_below hp ((Below.refl _ _).drew))
 have hbd : base ≤ W.drew.heap.size := hbase
 have HB := Hd hbase
 have HSA := Hd hsa
 clear hE hp hr hIH hbase hBn hBt hq HC0 HZI0 hsa
 go_enter func131, ntmps131
 go_wp2
 refine wp_region_E (fun w' => Blk w' b5 50 #[.pointer (some ⟨g, 0, none⟩)] ∧ Blk w' bn 31 #[.int .u64 n] ∧ Blk w' b19 31 #[.int .u64 d] ∧ Blk w' b7 30 #[.int .i8 x]) (fun _ => True) [] (by kernel_rfl) ?_
 generalize W.drew = Wd at HT HPd hbd ⊢
 refine el false 0 ⟨b5, 0, none⟩ (.pointer (some ⟨g, 0, none⟩)) underlying50 (fun w hS => (hS.1.1.cell 0)) (bT HT) ?_
 refine el false 1 ⟨bn, 0, none⟩ (.int .u64 n) underlying31 (fun w hS => (hS.1.2.1.cell 0)) (bT HT) ?_
 refine el false 2 ⟨b19, 0, none⟩ (.int .u64 d) underlying31 (fun w hS => (hS.1.2.2.1.cell 0)) (bT HT) ?_
 refine eg 3 (.int .u64 (IntKind.u64.wrap (n + d))) (bT HT) ?_
 refine el false 4 ⟨b7, 0, none⟩ (.int .i8 x) underlying30 (fun w hS => (hS.1.2.2.2.cell 0)) (bT HT) ?_
 refine eo 5 fun o K h2 h3 hKK => ?_
 unfold Oper.wp execOp
 simp only [h3]
 go_simp
 refine (cut_any _ _ _).mono ?_
 rintro e w' ⟨rfl, rfl⟩
 dsimp only
 refine hKK _ _ (bT HT) ?_
 clear hKK h2 h3 K o
 try simp only [pt, pn, sL]
 refine eo 6 fun o K h2 h3 hKK => ?_
 unfold Oper.wp execOp
 simp only [h3]
 go_simp
 refine (HC.out _ _ HPd.out.pool hbd).mono ?_
 rintro e w1 ⟨rfl, F1, hp1⟩
 replace HT := Hd (⟨(hp1.blk HT.out.1 HE.out.e5.2).1, (hp1.blk HT.out.2.1 HBN.out.2).1, (hp1.blk HT.out.2.2.1 HE.out.e19.2).1, (hp1.blk HT.out.2.2.2 HE.out.e7.2).1⟩ : Blk w1 b5 50 #[.pointer (some ⟨g, 0, none⟩)] ∧ Blk w1 bn 31 #[.int .u64 n] ∧ Blk w1 b19 31 #[.int .u64 d] ∧ Blk w1 b7 30 #[.int .i8 x])
 have HP1 := Hd (HPd.out.trans hp1)
 clear hp1 hbd
 dsimp only
 refine hKK _ _ (bT HT) ?_
 clear hKK h2 h3 K o
 try simp only [pt, pn, sL]
 refine em 7 (.tuple #[.int .i64 z, .int .i64 er]) (bT HT) ?_
 refine eg 8 (.int .i64 z) (bT HT) ?_
 refine eg 9 (.int .i64 er) (bT HT) ?_
 refine eS 10 (.int .i64 z) (bT HT) ?_
 refine eS 11 (.int .i64 er) (bT HT) ?_
 refine wpAnyE_done (by kernel_rfl) ?_ _
 clear HPd HC
 have HE1 := Hd (HE.out.pg HP1.out)
 have HBT1 := Hd (HP1.out.blk HBT.out.1 HBT.out.2)
 have hb1 := Nat.le_trans HB.out HP1.out.size
 have c4 := HBT1.out.1.cell 4
 simp [TD.cells] at c4
 have c5 := HE1.out.e5.1.cell 0
 have c7 := HE1.out.e7.1.cell 0
 simp at c5 c7
 cases her : (er == 0)
 ·have he := HR.out
  have he2 := bindR_no he (by simpa using her)
  subst he2
  clear he
  go_wp2
  go_ret2
  exact ⟨rfl, F1, HP1.out⟩
 ·have hrec := bindR_ok HR.out (show er = 0 by simpa using her)
  dsimp only at hrec
  have HREC := Hd hrec
  clear hrec
  go_wp2_with fail
  refine (HIH.out 0 x s.a z HSA.out HZI.out F1 p1 r HREC.out _ HP1.out.pool hb1).mono ?_
  rintro e w2 ⟨rfl, hr2⟩
  have HR2 := Hd hr2
  clear hr2
  go_wp2
  go_ret2
  exact RetP.from HP1.out ⟨rfl, HR2.out⟩
theorem law8_no (hE : OpE g op x a b c d lf rt tn sh b5 b6 b7 b8 b9 b15 b17 b18 b19 b20 b21 b22 b23 b24 F W) (hp : PoolAt W base F g p) (s : TD) (hs : atP p.T a = s) (n : Int) (two : Bool) (hn : (Value.tuple #[.int .u64 (atP p.T s.b).n, .bool ((atP p.T s.b).kind == 0)]) = .tuple #[.int .u64 n, .bool two]) (hf : (op == 0 && (rt && (two && (s.kind == 2 && (s.op == 0 && s.w == x))))) = false) :
  Calls prog 129 #[.pointer (some ⟨b15, 0, none⟩), .pointer (some ⟨b8, 0, none⟩), .pointer (some ⟨b6, 0, none⟩), .pointer (some ⟨b20, 0, none⟩), .pointer (some ⟨b7, 0, none⟩), .pointer (some ⟨b5, 0, none⟩), .pointer (some ⟨b19, 0, none⟩)] W (fun e w' => e = .returned (.tuple #[.int .i64 0, .bool false, .int .i64 0]) ∧ Below W.heap.size W w') := by
 have HF := Hd hf
 clear hf
 have HS := Hd hs
 have HN := Hd hn
 have HE := Hd hE
 have HP := Hd hp
 have HSW := Hd (show s.wf by rw [← hs]; exact atP_wf hp.rng a)
 have c15 := hE.e15.1.cell 0
 have c8 := hE.e8.1.cell 0
 simp at c15 c8
 clear hE hp hs hn
 go_enter func129, ntmps129
 go_wp2_with fail
 refine (at_any a _ HP.out).mono ?_
 rintro e w1 ⟨rfl, hb⟩
 have HE1 := Hd (HE.out.below hb)
 have HP1 := Hd (PG.of_below HP.out hb)
 have HL1 := Hd hb
 clear hb c15 c8
 rw [HS.out]
 go_upto_region 2 with (first
  | (refine wpList_store_new rfl 147 (.tmp 10) (.tmp 15) rfl _ s.cells (termV s) (by rfl) (by rfl) rfl sizT rfl (TD.one _) ?_
     intro w5 G5 L5 Z5
     have HX := Hd G5
     have HE2 := Hd (HE1.out.below L5)
     have HP2 := Hd (HP1.out.step L5)
     have HL2 := Hd (HL1.out.trans (L5.mono HL1.out.size))
     clear G5 L5 Z5)
  | fail)
 obtain ⟨bt, hbt⟩ : ∃ b, w1.heap.size = b := ⟨_, rfl⟩
 have HNF := Hd (show ¬ F bt from fun q => by have := (HP.out.fb bt q).2; have := HL1.out.size; omega)
 rw [hbt] at HX ⊢
 have c15 := HE2.out.e15.1.cell 0
 simp at c15
 have q5 := HX.out.cell 5
 simp [TD.cells] at q5
 go_wp2_with fail
 refine (constant_any s.b _ HP2.out.pool).mono ?_
 rintro e w6 ⟨rfl, hb⟩
 have HE3 := Hd (HE2.out.below hb)
 have HP3 := Hd (HP2.out.step hb)
 have HX3 := Hd (HX.out.below hb HX.out.lt)
 have HL3 := Hd (HL2.out.trans (hb.mono HL2.out.size))
 clear hb c15 q5
 rw [HN.out]
 go_upto_region 3 with fail
 have hb6 : Below w6.heap.size w6 (w6.alloc (.cells #[.int .u64 n] 31)) := (Below.refl _ _).alloc (Nat.le_refl _) _
 have HBN := Hd (Blk.new w6 31 #[.int .u64 n])
 have HE4 := Hd (HE3.out.below hb6)
 have HP4 := Hd (HP3.out.step hb6)
 have HX4 := Hd (HX3.out.below hb6 HX3.out.lt)
 have HL4 := Hd (HL3.out.trans (hb6.mono HL3.out.size))
 have HNF6 := Hd (show ¬ F w6.heap.size from fun q => by have := (HP.out.fb _ q).2; have := HL3.out.size; omega)
 clear hb6
 generalize w6.alloc (.cells #[.int .u64 n] 31) = w7 at HBN HE4 HP4 HX4 HL4 ⊢
 have r0 := HX4.out.cell 0
 have r1 := HX4.out.cell 1
 have r2 := HX4.out.cell 2
 simp [TD.cells] at r0 r1 r2
 have c6 := HE4.out.e6.1.cell 0
 have c20 := HE4.out.e20.1.cell 0
 have c7 := HE4.out.e7.1.cell 0
 simp at c6 c20 c7
 cases h1 : (op == 0)
 ·clear HF
  go_wp2_with fail
  refine (then_no _ _).mono ?_
  rintro e w8 ⟨rfl, rfl⟩
  go_wp2
  exact bodyPost_ret (v := .tuple #[.int .i64 0, .bool false, .int .i64 0]) (by simp [results, results129, go_sem]) rfl ⟨rfl, HL4.out⟩
 ·skip
  cases rt
  ·clear HF
   go_wp2_with fail
   refine (then_no _ _).mono ?_
   rintro e w8 ⟨rfl, rfl⟩
   go_wp2
   exact bodyPost_ret (v := .tuple #[.int .i64 0, .bool false, .int .i64 0]) (by simp [results, results129, go_sem]) rfl ⟨rfl, HL4.out⟩
  ·skip
   cases two
   ·clear HF
    go_wp2_with fail
    refine (then_no _ _).mono ?_
    rintro e w8 ⟨rfl, rfl⟩
    go_wp2
    exact bodyPost_ret (v := .tuple #[.int .i64 0, .bool false, .int .i64 0]) (by simp [results, results129, go_sem]) rfl ⟨rfl, HL4.out⟩
   ·skip
    cases h4 : (s.kind == 2)
    ·clear HF
     go_wp2_with fail
     refine (then_no _ _).mono ?_
     rintro e w8 ⟨rfl, rfl⟩
     go_wp2
     exact bodyPost_ret (v := .tuple #[.int .i64 0, .bool false, .int .i64 0]) (by simp [results, results129, go_sem]) rfl ⟨rfl, HL4.out⟩
    ·skip
     cases h5 : (s.op == 0)
     ·clear HF
      go_wp2_with fail
      refine (then_no _ _).mono ?_
      rintro e w8 ⟨rfl, rfl⟩
      go_wp2
      exact bodyPost_ret (v := .tuple #[.int .i64 0, .bool false, .int .i64 0]) (by simp [results, results129, go_sem]) rfl ⟨rfl, HL4.out⟩
     ·skip
      cases h6 : (s.w == x)
      ·clear HF
       go_wp2_with fail
       refine (then_no _ _).mono ?_
       rintro e w8 ⟨rfl, rfl⟩
       go_wp2
       exact bodyPost_ret (v := .tuple #[.int .i64 0, .bool false, .int .i64 0]) (by simp [results, results129, go_sem]) rfl ⟨rfl, HL4.out⟩
      ·skip
       exfalso
       have := HF.out
       simp [h1, h4, h5, h6] at this
theorem law8_yes (hE : OpE g op x a b c d lf rt tn sh b5 b6 b7 b8 b9 b15 b17 b18 b19 b20 b21 b22 b23 b24 F W) (hp : PoolAt W base F g p) (hbase : base ≤ W.heap.size) (hIH : OpC base g f) (s : TD) (hs : atP p.T a = s) (n : Int) (two : Bool) (hn : (Value.tuple #[.int .u64 (atP p.T s.b).n, .bool ((atP p.T s.b).kind == 0)]) = .tuple #[.int .u64 n, .bool two]) (hf : (op == 0 && (rt && (two && (s.kind == 2 && (s.op == 0 && s.w == x))))) = true)
  (hr : bindR (putR p (constT (cutV x (IntKind.u64.wrap (n + d))))) (fun q z => opF f q 0 x s.a z) = some r) :
  Calls prog 129 #[.pointer (some ⟨b15, 0, none⟩), .pointer (some ⟨b8, 0, none⟩), .pointer (some ⟨b6, 0, none⟩), .pointer (some ⟨b20, 0, none⟩), .pointer (some ⟨b7, 0, none⟩), .pointer (some ⟨b5, 0, none⟩), .pointer (some ⟨b19, 0, none⟩)] W (fun e w' => ∃ n m, e = .returned (.tuple #[.int .i64 n, .bool true, .int .i64 m]) ∧ RR base g F W r n m w') := by
 have h1 : (op == 0) = true := by revert hf; cases (op == 0) <;> simp
 obtain rfl : rt = true := by revert hf; cases rt <;> simp
 obtain rfl : two = true := by revert hf; cases two <;> simp
 have h4 : (s.kind == 2) = true := by revert hf; cases (s.kind == 2) <;> simp
 have h5 : (s.op == 0) = true := by revert hf; cases (s.op == 0) <;> simp
 have h6 : (s.w == x) = true := by revert hf; cases (s.w == x) <;> simp
 clear hf
 have HIH := Hd hIH
 have HR := Hd hr
 have HB := Hd hbase
 clear hIH hr hbase
 have HS := Hd hs
 have HN := Hd hn
 have HE := Hd hE
 have HP := Hd hp
 have HSW := Hd (show s.wf by rw [← hs]; exact atP_wf hp.rng a)
 have c15 := hE.e15.1.cell 0
 have c8 := hE.e8.1.cell 0
 simp at c15 c8
 clear hE hp hs hn
 go_enter func129, ntmps129
 go_wp2_with fail
 refine (at_any a _ HP.out).mono ?_
 rintro e w1 ⟨rfl, hb⟩
 have HE1 := Hd (HE.out.below hb)
 have HP1 := Hd (PG.of_below HP.out hb)
 have HL1 := Hd hb
 clear hb c15 c8
 rw [HS.out]
 go_upto_region 2 with (first
  | (refine wpList_store_new rfl 147 (.tmp 10) (.tmp 15) rfl _ s.cells (termV s) (by rfl) (by rfl) rfl sizT rfl (TD.one _) ?_
     intro w5 G5 L5 Z5
     have HX := Hd G5
     have HE2 := Hd (HE1.out.below L5)
     have HP2 := Hd (HP1.out.step L5)
     have HL2 := Hd (HL1.out.trans (L5.mono HL1.out.size))
     clear G5 L5 Z5)
  | fail)
 obtain ⟨bt, hbt⟩ : ∃ b, w1.heap.size = b := ⟨_, rfl⟩
 have HNF := Hd (show ¬ F bt from fun q => by have := (HP.out.fb bt q).2; have := HL1.out.size; omega)
 rw [hbt] at HX ⊢
 have c15 := HE2.out.e15.1.cell 0
 simp at c15
 have q5 := HX.out.cell 5
 simp [TD.cells] at q5
 go_wp2_with fail
 refine (constant_any s.b _ HP2.out.pool).mono ?_
 rintro e w6 ⟨rfl, hb⟩
 have HE3 := Hd (HE2.out.below hb)
 have HP3 := Hd (HP2.out.step hb)
 have HX3 := Hd (HX.out.below hb HX.out.lt)
 have HL3 := Hd (HL2.out.trans (hb.mono HL2.out.size))
 clear hb c15 q5
 rw [HN.out]
 go_upto_region 3 with fail
 have hb6 : Below w6.heap.size w6 (w6.alloc (.cells #[.int .u64 n] 31)) := (Below.refl _ _).alloc (Nat.le_refl _) _
 have HBN := Hd (Blk.new w6 31 #[.int .u64 n])
 have HE4 := Hd (HE3.out.below hb6)
 have HP4 := Hd (HP3.out.step hb6)
 have HX4 := Hd (HX3.out.below hb6 HX3.out.lt)
 have HL4 := Hd (HL3.out.trans (hb6.mono HL3.out.size))
 have HNF6 := Hd (show ¬ F w6.heap.size from fun q => by have := (HP.out.fb _ q).2; have := HL3.out.size; omega)
 clear hb6
 generalize w6.alloc (.cells #[.int .u64 n] 31) = w7 at HBN HE4 HP4 HX4 HL4 ⊢
 have r0 := HX4.out.cell 0
 have r1 := HX4.out.cell 1
 have r2 := HX4.out.cell 2
 simp [TD.cells] at r0 r1 r2
 have c6 := HE4.out.e6.1.cell 0
 have c20 := HE4.out.e20.1.cell 0
 have c7 := HE4.out.e7.1.cell 0
 simp at c6 c20 c7
 have H := Hd (op8_do HE4.out HP4.out.pool (Nat.le_trans HB.out HP4.out.size) HIH.out HSW.out.2.2.2.2.1 ⟨HBN.out, HNF6.out⟩ ⟨HX4.out, HNF.out⟩ HR.out)
 go_wp2_with fail
 refine (then_yes 131 _ _ (RR base g F W r) enters8_1 (H.out.mono fun e w' q => RR.of (RetP.from HP4.out q))).mono ?_
 rintro e w8 ⟨n, m, rfl, hr⟩
 have HRR := Hd hr
 clear hr
 go_wp2
 exact bodyPost_ret (v := .tuple #[.int .i64 n, .bool true, .int .i64 m]) (by simp [results, results129, go_sem]) rfl ⟨n, m, rfl, HRR.out⟩
end
end Go.Proofs.YtepagfkkjlbipaaGreat
