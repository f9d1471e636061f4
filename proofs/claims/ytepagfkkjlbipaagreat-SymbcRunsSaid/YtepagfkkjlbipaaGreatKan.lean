/-
  Parts of the proof of SymbcRuns. Conditions: those written in each statement.
-/
import Derived.Test.YtepagfkkjlbipaaGreatKam
import Derived.Test.YtepagfkkjlbipaaGreatKal
set_option linter.unusedVariables false
set_option linter.unusedSimpArgs false
set_option maxHeartbeats 64000000
set_option maxRecDepth 100000
namespace Go.Proofs.YtepagfkkjlbipaaGreat
open Go.RowKit
open Tryz
section
section
variable {base f g : Nat}{op x a b c d : Int}{lf rt tn sh : Bool}{b5 b6 b7 b8 b9 b15 b17 b18 b19 b20 b21 b22 b23 b24 : Nat}{F : Nat → Prop}{W : World}{p : PS}{r : RS}
theorem zrX (hE : OpE g op x a b c d lf rt tn sh b5 b6 b7 b8 b9 b15 b17 b18 b19 b20 b21 b22 b23 b24 F W)(hp : zam W base F g p)(hbase : base ≤ W.heap.size)(hIH : OpC base g f){s : TD}{n : Int}{bn bt : Nat}(hsa : I64 s.a)(hBn : Blk W bn 31 #[.int .u64 n] ∧ ¬ F bn)(hBt : Blk W bt 147 s.cells.toArray ∧ ¬ F bt)(hr : zbA (putR p (zaf (zao x (IntKind.u64.wrap (n + d))))) (fun q z => opF f q 0 x s.a z) = some r) :
  Calls prog 131 #[.pointer (some ⟨b5,0,none⟩),.pointer (some ⟨bn,0,none⟩),.pointer (some ⟨b19,0,none⟩),.pointer (some ⟨b7,0,none⟩),.pointer (some ⟨bt,0,none⟩)] W (zbT base g F W r) := by
 have HZI0 := zaY hp.wf (zaf (zao x (IntKind.u64.wrap (n + d))));obtain ⟨q,hq⟩ : ∃ q,putR p (zaf (zao x (IntKind.u64.wrap (n + d)))) = q := ⟨_,rfl⟩;rw [show (zcP p (zaf (zao x (IntKind.u64.wrap (n + d))))).1 = q.2.1 by rw [← hq]; rfl] at HZI0;have HC0 : ∀ (W : World) (F : Nat → Prop) (h : zam W base F g p) (hb : base ≤ W.heap.size),Calls prog 39 #[.pointer (some ⟨g,0,none⟩),.int .u64 (zao x (IntKind.u64.wrap (n + d)))] W (zbT base g F W q) := fun W F h hb => by
  have := zb1 (zao x (IntKind.u64.wrap (n + d))) (zau (by unfold U64; rw [IntKind.wrap_u64]; omega)) W h hb;rw [hq] at this;exact this
 rw [hq] at hr;obtain ⟨p1,z,er⟩ := q;dsimp only at HZI0 HC0;have HC := Hd HC0
 have HZI := Hd HZI0
 have HR := Hd hr
 have HIH := Hd hIH
 have HBN := Hd hBn
 have HBT := Hd hBt
 have HE := Hd hE
 have HT := Hd (⟨hE.e5.1,hBn.1,hE.e19.1,hE.e7.1⟩ : Blk W.drew b5 50 #[.pointer (some ⟨g,0,none⟩)] ∧ Blk W.drew bn 31 #[.int .u64 n] ∧ Blk W.drew b19 31 #[.int .u64 d] ∧ Blk W.drew b7 30 #[.int .i8 x])
 have HPd := Hd (PG.of_below hp ((Below.refl _ _).drew))
 have hbd : base ≤ W.drew.heap.size := hbase;have HB := Hd hbase
 have HSA := Hd hsa
 clear hE hp hr hIH hbase hBn hBt hq HC0 HZI0 hsa;go_enter func131,ntmps131;go_wp2;refine zac (fun w' => Blk w' b5 50 #[.pointer (some ⟨g,0,none⟩)] ∧ Blk w' bn 31 #[.int .u64 n] ∧ Blk w' b19 31 #[.int .u64 d] ∧ Blk w' b7 30 #[.int .i8 x]) (fun _ => True) [] (by kernel_rfl) ?_;generalize W.drew = Wd at HT HPd hbd ⊢;refine el false 0 ⟨b5,0,none⟩ (.pointer (some ⟨g,0,none⟩)) underlying50 (fun w hS => (hS.1.1.cell 0)) (bT HT) ?_;refine el false 1 ⟨bn,0,none⟩ (.int .u64 n) underlying31 (fun w hS => (hS.1.2.1.cell 0)) (bT HT) ?_;refine el false 2 ⟨b19,0,none⟩ (.int .u64 d) underlying31 (fun w hS => (hS.1.2.2.1.cell 0)) (bT HT) ?_;refine eg 3 (.int .u64 (IntKind.u64.wrap (n + d))) (bT HT) ?_;refine el false 4 ⟨b7,0,none⟩ (.int .i8 x) underlying30 (fun w hS => (hS.1.2.2.2.cell 0)) (bT HT) ?_;refine ec 5 (zbD _ _ _) ?_;rintro e w' ⟨rfl,rfl⟩;refine ek (bT HT) ?_;refine ec 6 (HC.out _ _ HPd.out.pool hbd) ?_;rintro e w1 ⟨rfl,F1,hp1⟩;replace HT := Hd (⟨(hp1.blk HT.out.1 HE.out.e5.2).1,(hp1.blk HT.out.2.1 HBN.out.2).1,(hp1.blk HT.out.2.2.1 HE.out.e19.2).1,(hp1.blk HT.out.2.2.2 HE.out.e7.2).1⟩ : Blk w1 b5 50 #[.pointer (some ⟨g,0,none⟩)] ∧ Blk w1 bn 31 #[.int .u64 n] ∧ Blk w1 b19 31 #[.int .u64 d] ∧ Blk w1 b7 30 #[.int .i8 x])
 have HP1 := Hd (HPd.out.trans hp1)
 clear hp1 hbd;refine ek (bT HT) ?_;refine em 7 (.tuple #[.int .i64 z,.int .i64 er]) (bT HT) ?_;refine eg 8 (.int .i64 z) (bT HT) ?_;refine eg 9 (.int .i64 er) (bT HT) ?_;refine eS 10 (.int .i64 z) (bT HT) ?_;refine eS 11 (.int .i64 er) (bT HT) ?_;refine zab (by kernel_rfl) ?_ _;clear HPd HC;have HE1 := Hd (HE.out.pg HP1.out)
 have HBT1 := Hd (HP1.out.blk HBT.out.1 HBT.out.2)
 have hb1 := zto HB.out HP1.out.size;have c4 := HBT1.out.1.cell 4;simp [TD.cells] at c4;have c5 := HE1.out.e5.1.cell 0;have c7 := HE1.out.e7.1.cell 0;simp at c5 c7
 cases her : (er == 0)
 ·have he := HR.out
  have he2 := zhv he (by simpa using her);subst he2;clear he;go_wp2;go_ret2;exact ⟨rfl,F1,HP1.out⟩
 ·have hrec := zhu HR.out (show er = 0 by simpa using her)
  dsimp only at hrec;have HREC := Hd hrec
  clear hrec;go_wp2_with fail
  refine (HIH.out 0 x s.a z HSA.out HZI.out F1 p1 r HREC.out _ HP1.out.pool hb1).mono ?_;rintro e w2 ⟨rfl,hr2⟩;have HR2 := Hd hr2
  clear hr2;go_wp2;go_ret2;exact zbT.from HP1.out ⟨rfl,HR2.out⟩
theorem zqG (hE : OpE g op x a b c d lf rt tn sh b5 b6 b7 b8 b9 b15 b17 b18 b19 b20 b21 b22 b23 b24 F W)(hp : zam W base F g p)(s : TD)(hs : atP p.T a = s)(n : Int)(two : Bool)(hn : (Value.tuple #[.int .u64 (atP p.T s.b).n,.bool ((atP p.T s.b).kind == 0)]) = .tuple #[.int .u64 n,.bool two])(hf : (op == 0 && (rt && (two && (s.kind == 2 && (s.op == 0 && s.w == x))))) = false) :
  Calls prog 129 #[.pointer (some ⟨b15,0,none⟩),.pointer (some ⟨b8,0,none⟩),.pointer (some ⟨b6,0,none⟩),.pointer (some ⟨b20,0,none⟩),.pointer (some ⟨b7,0,none⟩),.pointer (some ⟨b5,0,none⟩),.pointer (some ⟨b19,0,none⟩)] W (fun e w' => e = .returned (.tuple #[.int .i64 0,.bool false,.int .i64 0]) ∧ Below W.heap.size W w') := by
 have HF := Hd hf
 clear hf;have HS := Hd hs
 have HN := Hd hn
 have HE := Hd hE
 have HP := Hd hp
 have HSW := Hd (show s.wf by rw [← hs]; exact zba hp.rng a)
 have c15 := hE.e15.1.cell 0;have c8 := hE.e8.1.cell 0;simp at c15 c8;clear hE hp hs hn;go_enter func129,ntmps129;go_wp2_with fail
 refine (zgK a _ HP.out).mono ?_;rintro e w1 ⟨rfl,hb⟩;have HE1 := Hd (HE.out.below hb)
 have HP1 := Hd (PG.of_below HP.out hb)
 have HL1 := Hd hb
 clear hb c15 c8;rw [HS.out];go_upto_region 2 with (first
  | (refine zag rfl 147 (.tmp 10) (.tmp 15) rfl _ s.cells (zaw s) (by rfl) (by rfl) rfl zcL rfl (TD.one _) ?_
     intro w5 G5 L5 Z5;have HX := Hd G5
     have HE2 := Hd (HE1.out.below L5)
     have HP2 := Hd (HP1.out.step L5)
     have HL2 := Hd (HL1.out.trans (L5.mono HL1.out.size))
     clear G5 L5 Z5)
  | fail)
 obtain ⟨bt,hbt⟩ : ∃ b,w1.heap.size = b := ⟨_,rfl⟩;have HNF := Hd (show ¬ F bt from fun q => by have := (HP.out.fb bt q).2; have := HL1.out.size; omega)
 rw [hbt] at HX ⊢;have c15 := HE2.out.e15.1.cell 0;simp at c15;have q5 := HX.out.cell 5;simp [TD.cells] at q5;go_wp2_with fail
 refine (zcc s.b _ HP2.out.pool).mono ?_;rintro e w6 ⟨rfl,hb⟩;have HE3 := Hd (HE2.out.below hb)
 have HP3 := Hd (HP2.out.step hb)
 have HX3 := Hd (HX.out.below hb HX.out.lt)
 have HL3 := Hd (HL2.out.trans (hb.mono HL2.out.size))
 clear hb c15 q5;rw [HN.out];go_upto_region 3 with fail
 have hb6 : Below w6.heap.size w6 (w6.alloc (.cells #[.int .u64 n] 31)) := (Below.refl _ _).alloc (ztn _) _;have HBN := Hd (Blk.new w6 31 #[.int .u64 n])
 have HE4 := Hd (HE3.out.below hb6)
 have HP4 := Hd (HP3.out.step hb6)
 have HX4 := Hd (HX3.out.below hb6 HX3.out.lt)
 have HL4 := Hd (HL3.out.trans (hb6.mono HL3.out.size))
 have HNF6 := Hd (show ¬ F w6.heap.size from fun q => by have := (HP.out.fb _ q).2; have := HL3.out.size; omega)
 clear hb6;generalize w6.alloc (.cells #[.int .u64 n] 31) = w7 at HBN HE4 HP4 HX4 HL4 ⊢;have r0 := HX4.out.cell 0;have r1 := HX4.out.cell 1;have r2 := HX4.out.cell 2;simp [TD.cells] at r0 r1 r2;have c6 := HE4.out.e6.1.cell 0;have c20 := HE4.out.e20.1.cell 0;have c7 := HE4.out.e7.1.cell 0;simp at c6 c20 c7
 cases h1 : (op == 0)
 ·clear HF
  go_wp2_with fail
  refine (zbL _ _).mono ?_;rintro e w8 ⟨rfl,rfl⟩;go_wp2;exact bodyPost_ret (v := .tuple #[.int .i64 0,.bool false,.int .i64 0]) (by simp [results,results129,go_sem]) rfl ⟨rfl,HL4.out⟩
 ·skip
  cases rt
  ·clear HF
   go_wp2_with fail
   refine (zbL _ _).mono ?_;rintro e w8 ⟨rfl,rfl⟩;go_wp2;exact bodyPost_ret (v := .tuple #[.int .i64 0,.bool false,.int .i64 0]) (by simp [results,results129,go_sem]) rfl ⟨rfl,HL4.out⟩
  ·skip
   cases two
   ·clear HF
    go_wp2_with fail
    refine (zbL _ _).mono ?_;rintro e w8 ⟨rfl,rfl⟩;go_wp2;exact bodyPost_ret (v := .tuple #[.int .i64 0,.bool false,.int .i64 0]) (by simp [results,results129,go_sem]) rfl ⟨rfl,HL4.out⟩
   ·skip
    cases h4 : (s.kind == 2)
    ·clear HF
     go_wp2_with fail
     refine (zbL _ _).mono ?_;rintro e w8 ⟨rfl,rfl⟩;go_wp2;exact bodyPost_ret (v := .tuple #[.int .i64 0,.bool false,.int .i64 0]) (by simp [results,results129,go_sem]) rfl ⟨rfl,HL4.out⟩
    ·skip
     cases h5 : (s.op == 0)
     ·clear HF
      go_wp2_with fail
      refine (zbL _ _).mono ?_;rintro e w8 ⟨rfl,rfl⟩;go_wp2;exact bodyPost_ret (v := .tuple #[.int .i64 0,.bool false,.int .i64 0]) (by simp [results,results129,go_sem]) rfl ⟨rfl,HL4.out⟩
     ·skip
      cases h6 : (s.w == x)
      ·clear HF
       go_wp2_with fail
       refine (zbL _ _).mono ?_;rintro e w8 ⟨rfl,rfl⟩;go_wp2;exact bodyPost_ret (v := .tuple #[.int .i64 0,.bool false,.int .i64 0]) (by simp [results,results129,go_sem]) rfl ⟨rfl,HL4.out⟩
      ·skip
       exfalso;have := HF.out;simp [h1,h4,h5,h6] at this
theorem zoU (hE : OpE g op x a b c d lf rt tn sh b5 b6 b7 b8 b9 b15 b17 b18 b19 b20 b21 b22 b23 b24 F W)(hp : zam W base F g p)(hbase : base ≤ W.heap.size)(hIH : OpC base g f)(s : TD)(hs : atP p.T a = s)(n : Int)(two : Bool)(hn : (Value.tuple #[.int .u64 (atP p.T s.b).n,.bool ((atP p.T s.b).kind == 0)]) = .tuple #[.int .u64 n,.bool two])(hf : (op == 0 && (rt && (two && (s.kind == 2 && (s.op == 0 && s.w == x))))) = true)
  (hr : zbA (putR p (zaf (zao x (IntKind.u64.wrap (n + d))))) (fun q z => opF f q 0 x s.a z) = some r) :
  Calls prog 129 #[.pointer (some ⟨b15,0,none⟩),.pointer (some ⟨b8,0,none⟩),.pointer (some ⟨b6,0,none⟩),.pointer (some ⟨b20,0,none⟩),.pointer (some ⟨b7,0,none⟩),.pointer (some ⟨b5,0,none⟩),.pointer (some ⟨b19,0,none⟩)] W (fun e w' => ∃ n m,e = .returned (.tuple #[.int .i64 n,.bool true,.int .i64 m]) ∧ RR base g F W r n m w') := by
 have h1 : (op == 0) = true := by revert hf; cases (op == 0) <;> simp
 obtain rfl : rt = true := by revert hf; cases rt <;> simp
 obtain rfl : two = true := by revert hf; cases two <;> simp
 have h4 : (s.kind == 2) = true := by revert hf; cases (s.kind == 2) <;> simp
 have h5 : (s.op == 0) = true := by revert hf; cases (s.op == 0) <;> simp
 have h6 : (s.w == x) = true := by revert hf; cases (s.w == x) <;> simp
 clear hf;have HIH := Hd hIH
 have HR := Hd hr
 have HB := Hd hbase
 clear hIH hr hbase;have HS := Hd hs
 have HN := Hd hn
 have HE := Hd hE
 have HP := Hd hp
 have HSW := Hd (show s.wf by rw [← hs]; exact zba hp.rng a)
 have c15 := hE.e15.1.cell 0;have c8 := hE.e8.1.cell 0;simp at c15 c8;clear hE hp hs hn;go_enter func129,ntmps129;go_wp2_with fail
 refine (zgK a _ HP.out).mono ?_;rintro e w1 ⟨rfl,hb⟩;have HE1 := Hd (HE.out.below hb)
 have HP1 := Hd (PG.of_below HP.out hb)
 have HL1 := Hd hb
 clear hb c15 c8;rw [HS.out];go_upto_region 2 with (first
  | (refine zag rfl 147 (.tmp 10) (.tmp 15) rfl _ s.cells (zaw s) (by rfl) (by rfl) rfl zcL rfl (TD.one _) ?_
     intro w5 G5 L5 Z5;have HX := Hd G5
     have HE2 := Hd (HE1.out.below L5)
     have HP2 := Hd (HP1.out.step L5)
     have HL2 := Hd (HL1.out.trans (L5.mono HL1.out.size))
     clear G5 L5 Z5)
  | fail)
 obtain ⟨bt,hbt⟩ : ∃ b,w1.heap.size = b := ⟨_,rfl⟩;have HNF := Hd (show ¬ F bt from fun q => by have := (HP.out.fb bt q).2; have := HL1.out.size; omega)
 rw [hbt] at HX ⊢;have c15 := HE2.out.e15.1.cell 0;simp at c15;have q5 := HX.out.cell 5;simp [TD.cells] at q5;go_wp2_with fail
 refine (zcc s.b _ HP2.out.pool).mono ?_;rintro e w6 ⟨rfl,hb⟩;have HE3 := Hd (HE2.out.below hb)
 have HP3 := Hd (HP2.out.step hb)
 have HX3 := Hd (HX.out.below hb HX.out.lt)
 have HL3 := Hd (HL2.out.trans (hb.mono HL2.out.size))
 clear hb c15 q5;rw [HN.out];go_upto_region 3 with fail
 have hb6 : Below w6.heap.size w6 (w6.alloc (.cells #[.int .u64 n] 31)) := (Below.refl _ _).alloc (ztn _) _;have HBN := Hd (Blk.new w6 31 #[.int .u64 n])
 have HE4 := Hd (HE3.out.below hb6)
 have HP4 := Hd (HP3.out.step hb6)
 have HX4 := Hd (HX3.out.below hb6 HX3.out.lt)
 have HL4 := Hd (HL3.out.trans (hb6.mono HL3.out.size))
 have HNF6 := Hd (show ¬ F w6.heap.size from fun q => by have := (HP.out.fb _ q).2; have := HL3.out.size; omega)
 clear hb6;generalize w6.alloc (.cells #[.int .u64 n] 31) = w7 at HBN HE4 HP4 HX4 HL4 ⊢;have r0 := HX4.out.cell 0;have r1 := HX4.out.cell 1;have r2 := HX4.out.cell 2;simp [TD.cells] at r0 r1 r2;have c6 := HE4.out.e6.1.cell 0;have c20 := HE4.out.e20.1.cell 0;have c7 := HE4.out.e7.1.cell 0;simp at c6 c20 c7;have H := Hd (zrX HE4.out HP4.out.pool (zto HB.out HP4.out.size) HIH.out HSW.out.2.2.2.2.1 ⟨HBN.out,HNF6.out⟩ ⟨HX4.out,HNF.out⟩ HR.out)
 go_wp2_with fail
 refine (zcj 131 _ _ (RR base g F W r) zm0 (H.out.mono fun e w' q => RR.of (zbT.from HP4.out q))).mono ?_;rintro e w8 ⟨n,m,rfl,hr⟩;have HRR := Hd hr
 clear hr;go_wp2;exact bodyPost_ret (v := .tuple #[.int .i64 n,.bool true,.int .i64 m]) (by simp [results,results129,go_sem]) rfl ⟨n,m,rfl,HRR.out⟩
end
end
section
theorem zbP {a b : Bool}(h : a = b) : Ending.returned (.bool a) = .returned (.bool b) := by rw [h]
section
variable {base g : Nat}{F : Nat → Prop}{p : PS}
theorem zia (k : Int)(w : World)(h : zaO w base F g p) : Calls prog 141 #[.pointer (some ⟨g,0,none⟩),.int .i64 k] w fun e w' => e = .returned (zaw (atP p.T k)) ∧ Below w.heap.size w w' := by
 have hb0 : Below w.heap.size w (w.alloc (.cells zbi.cells.toArray 147)) := zav w _;have HP := Hd (h.below hb0)
 have HB := Hd hb0
 have HN := Hd (Blk.new w 147 zbi.cells.toArray)
 have HW := Hd (zba h.rng k)
 clear h hb0;go_enter func141,ntmps141;go_wp2_with fail
 refine (zf7 k _ HP.out).mono ?_;rintro e w1 ⟨rfl,hb⟩;have HB1 := Hd (HB.out.trans (hb.mono HB.out.size))
 have HN1 := Hd (HN.out.below hb HN.out.lt)
 clear hb HP HB HN;generalize (if zal p.T k = true then (0 : Int) else 2) = er;obtain ⟨t,ht⟩ : ∃ t,atP p.T k = t := ⟨_,rfl⟩;rw [ht] at HW ⊢;have HT := Hd ht
 clear ht;go_upto_region 2 with (first
  | (refine zag rfl 147 (.tmp 5) (.tmp 11) rfl _ t.cells (zaw t) (by rfl) (by rfl) rfl zcL rfl (TD.one _) ?_
     intro w5 G5 L5 Z5;have HXS := Hd G5
     have HB2 := Hd (HB1.out.trans (L5.mono HB1.out.size))
     have HN2 := Hd (HN1.out.below L5 HN1.out.lt)
     clear G5 L5 Z5)
  | fail)
 go_wp2_with (first
  | (refine zae rfl 147 (.tmp 5) rfl ⟨w1.heap.size,0,none⟩ (by rfl) t.cells _ (zak HXS.out) underlying147 rfl zcL ?_)
  | (refine zaa rfl 147 (.tmp 4) (.tmp 13) rfl w.heap.size 0 147 zbi.cells t.cells (.agg t.cells.toArray) HN2.out (by rfl) (by rfl) rfl zcL (by simp [TD.cells]) (TD.one _) ?_
     intro w6 G6 L6 Z6;have HY := Hd G6
     have HB3 := Hd (HB2.out.grown L6 HB2.out.size (fun b e => by injection e with e; omega))
     clear G6 L6 Z6)
  | fail)
 have e : zaM zbi.cells 0 t.cells = t.cells := by unfold zaM; simp [TD.cells]
 have hrl := zaC (P := prog) w6 ⟨w.heap.size,0,none⟩ 147 t.cells _ (zak (by rw [← e]; exact HY.out)) underlying147 rfl zcL;exact bodyPost_ret (v := zaw t) (by simp [results,results141,Act.put,asAddr,Result.andThen,hrl,zaw]) rfl ⟨by rw [HT.out],HB3.out⟩
theorem zcV (l : List Int)(A : Option Addr)(n c : Nat)(w : World)(h : zaO w base F g p)(hr : zaU w w.heap.size 1 A n (l.map (Value.int .i64)))(hl : l.length = n)(hc : n ≤ c)(hn : n < 1000) :
  Calls prog 139 #[.pointer (some ⟨g,0,none⟩),.slice A n c] w fun e w' => e = .returned (.bool (l.all (zal p.T))) ∧ Below w.heap.size w w' := by
 have HP := Hd h
 have HR := Hd hr
 have HL := Hd hl
 obtain ⟨r,hr'⟩ : ∃ r : Bool,l.all (zal p.T) = r := ⟨_,rfl⟩;rw [hr'];have HRR := Hd hr'
 clear h hr hl hr';go_enter func139,ntmps139;go_wp2;go_loopw [5] (fun iv wr => ∃ k : Nat,k ≤ n ∧ iv = .int .i64 (k : Int) ∧ Below w.heap.size w wr ∧ (l.take k).all (zal p.T) = true) (fun iv _ => n - (intOf iv).toNat)
 case atStart => exact ⟨0,by omega,rfl,Below.refl _ _,by simp⟩
 case round =>
  obtain ⟨k,hk,rfl,hb,ha⟩ := hrel;have HB := Hd hb
  have HA := Hd ha
  clear hb ha
  by_cases hlt : k < n
  ·obtain ⟨ad,u,rfl,_,hu,hcl⟩ := (HR.out.below HB.out).at_ hlt
   rw [ztw,ztq (by rw [HL.out]; exact hlt)] at hu;injection hu with hu
   subst hu;have HX := Hd (ztq (l := l) (i := k) (by rw [HL.out]; exact hlt))
   generalize l[k]'(by rw [HL.out]; exact hlt) = x at HX hcl;have hkc : k < c := by omega
   cases hx : zal p.T x
   ·have HXB := Hd hx
    clear hx;go_wp2_with fail
    refine (zf7 x _ (HP.out.below HB.out)).mono ?_;rintro e w1 ⟨rfl,hb⟩;rw [HXB.out];simp only [ztL,if_false];have HB1 := Hd (HB.out.trans (hb.mono HB.out.size))
    clear hb;have HW := Hd (zba HP.out.rng x)
    generalize atP p.T x = t at HW ⊢;go_upto_region 5 with (first
     | (refine zag rfl 147 (.tmp 6) (.tmp 21) rfl _ t.cells (zaw t) (by rfl) (by rfl) rfl zcL rfl (TD.one _) ?_
        intro w5 G5 L5 Z5;have HXS := Hd G5
        have HB2 := Hd (HB1.out.trans (L5.mono HB1.out.size))
        clear G5 L5 Z5)
     | fail)
    go_wp2;go_ret;refine ⟨zbP ?_,HB2.out⟩;rw [← HRR.out,eq_comm]
    cases hall : l.all (zal p.T)
    ·rfl
    ·rw [zt8] at hall
     have := hall x (ztv HX.out);rw [HXB.out] at this
     cases this
   ·have HXB := Hd hx
    clear hx;go_wp2_with fail
    refine (zf7 x _ (HP.out.below HB.out)).mono ?_;rintro e w1 ⟨rfl,hb⟩;rw [HXB.out];simp only [if_true];have HB1 := Hd (HB.out.trans (hb.mono HB.out.size))
    clear hb;have HW := Hd (zba HP.out.rng x)
    generalize atP p.T x = t at HW ⊢;go_upto_region 5 with (first
     | (refine zag rfl 147 (.tmp 6) (.tmp 21) rfl _ t.cells (zaw t) (by rfl) (by rfl) rfl zcL rfl (TD.one _) ?_
        intro w5 G5 L5 Z5;have HXS := Hd G5
        have HB2 := Hd (HB1.out.trans (L5.mono HB1.out.size))
        clear G5 L5 Z5)
     | fail)
    go_wp2;go_roundw
    case measure => simp [intOf]; omega
    case rel => exact ⟨k + 1,by omega,by go_num,HB2.out,by rw [ztF,HX.out,List.all_append,HA.out]; simp [HXB.out]⟩
  ·obtain rfl : k = n := by omega
   go_wp2;go_ret;refine ⟨zbP ?_,HB.out⟩;have q := HA.out;rw [← HL.out,List.take_length] at q;rw [← HRR.out,q]
theorem zbZ (n : Int)(hn : U64 n)(w : World)(h : zaO w base F g p)(hbase : base ≤ w.heap.size) :
  Calls prog 40 #[.pointer (some ⟨g,0,none⟩),.int .u64 n] w (zc7 base g F w (putR p (zaf n))) := by
 have HP := Hd h
 have HW := Hd (zaP hn)
 have q := fun (w : World) => zfZ n w
 clear h hn;go_enter func40,ntmps40;go_wp2_with fail
 refine (zda _ HW.out _ HP.out hbase).mono ?_;rintro e w1 ⟨rfl,hr⟩;have HR := Hd hr
 clear hr;go_wp2;go_ret2;exact ⟨rfl,HR.out⟩
theorem zrY (n x : Int)(h0 : 0 ≤ n)(h1 : n < 9223372036854775808)(hx : I8 x)(w : World)(h : zaO w base F g p)(hbase : base ≤ w.heap.size) :
  Calls prog 37 #[.pointer (some ⟨g,0,none⟩),.int .i64 n,.int .i8 x] w (zc7 base g F w (putR p (zdJ n x))) := by
 have HP := Hd h
 have HW := Hd (zed (n := n) (by unfold U64; omega) hx)
 have hwr : IntKind.u64.wrap n = n := by rw [IntKind.wrap_u64]; omega
 have q := fun (w : World) => zhZ n x w
 have hd : decide (n < 0) = false := by simp; omega
 clear h hx;go_enter func37,ntmps37;go_wp2_with fail
 refine (zda _ HW.out _ HP.out hbase).mono ?_;rintro e w1 ⟨rfl,hr⟩;have HR := Hd hr
 clear hr;go_wp2;go_ret2;exact ⟨rfl,HR.out⟩
end
end
end Go.Proofs.YtepagfkkjlbipaaGreat
