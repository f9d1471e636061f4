/-
  Parts of the proof of SymbcRuns. Conditions: those written in each statement.
-/
import Derived.Test.YtepagfkkjlbipaaGreatKak
import Derived.Test.YtepagfkkjlbipaaGreatKai
set_option linter.unusedVariables false
set_option linter.unusedSimpArgs false
set_option maxHeartbeats 64000000
set_option maxRecDepth 100000
namespace Go.Proofs.YtepagfkkjlbipaaGreat
open Go.RowKit
open Tryz
section
section
variable {base g : Nat}{F : Nat → Prop}{p : PS}
theorem zrq (t : TD)(ht : t.wf)(n0 : t.kind = 3)(w : World)(h : zaO w base F g p) : Calls prog 107 #[.pointer (some ⟨g,0,none⟩),zaw t] w fun e w' => e = .returned (.bool (okP p.T t)) ∧ Below w.heap.size w w' := by
 have HP := Hd h
 have HLW := Hd (zdo ht)
 have HTW := Hd ht
 have HB0 := Hd (zav w (.cells t.cells.toArray 147))
 have HX0 := Hd (Blk.new w 147 t.cells.toArray)
 have qb := fun w => zca t.kind w
 clear h ht;unfold zaw;go_enter func107,ntmps107;go_upto_region 1 with fail
 have HNF := Hd (fun b (hb : w.heap.size ≤ b) (q : F b) => by have := (HP.out.fb b q).2; omega : ∀ b,w.heap.size ≤ b → ¬ F b)
 have HP0 := Hd (HP.out.below HB0.out)
 generalize w.alloc (.cells t.cells.toArray 147) = w1 at HB0 HX0 HP0 ⊢;obtain ⟨bx,hbx⟩ : ∃ b,w.heap.size = b := ⟨_,rfl⟩;have HBX := Hd hbx
 rw [hbx] at HX0 ⊢;clear hbx;have HLT := Hd (show bx < w1.heap.size from HX0.out.lt)
 have q0 := HX0.out.cell 0;simp [TD.cells] at q0;go_upto_region 2 with fail
 have HY := Hd (Blk.new w1 147 #[.int .i8 3,.int .i8 0,.int .i8 0,.int .u64 0,.int .i64 0,.int .i64 0,.int .i64 0])
 have HL := Hd (zav w1 (.cells #[.int .i8 3,.int .i8 0,.int .i8 0,.int .u64 0,.int .i64 0,.int .i64 0,.int .i64 0] 147))
 generalize w1.alloc (.cells #[.int .i8 3,.int .i8 0,.int .i8 0,.int .u64 0,.int .i64 0,.int .i64 0,.int .i64 0] 147) = w2 at HY HL ⊢;have HB := Hd (HB0.out.trans (HL.out.mono HB0.out.size))
 replace HX0 := Hd (HX0.out.below HL.out HX0.out.lt)
 replace HP0 := Hd (HP0.out.below HL.out)
 have HNB := Hd (show bx < w1.heap.size ∧ ¬ F w1.heap.size ∧ w.heap.size ≤ w1.heap.size from ⟨HLT.out,HNF.out _ HB0.out.size,HB0.out.size⟩)
 obtain ⟨b5,hb5⟩ : ∃ b,w1.heap.size = b := ⟨_,rfl⟩;rw [hb5] at HY HNB ⊢;clear hb5 HL HB0 HLT q0;have q0 := HX0.out.cell 0;simp [TD.cells] at q0;have q2 := HX0.out.cell 2;simp [TD.cells] at q2;go_upto_region 27 with (first
  | (refine zaa rfl 30 (.tmp 139) (.tmp 138) rfl b5 2 147 [.int .i8 3,.int .i8 0,.int .i8 0,.int .u64 0,.int .i64 0,.int .i64 0,.int .i64 0] [.int .i8 t.w] (.int .i8 t.w) HY.out (by rfl) (by rfl) rfl (by kernel_rfl) (by simp) (by simp [Value.oneCell']) ?_
     intro wn Gn Ln Zn;have HYn := Hd (by have h := Gn; simp [zaM] at h; exact h : Blk wn b5 147 #[.int .i8 3,.int .i8 0,.int .i8 t.w,.int .u64 0,.int .i64 0,.int .i64 0,.int .i64 0])
     have HXn := Hd (HX0.out.grown Ln (fun e => by injection e with e; have := HNB.out.1; omega))
     have HPn := Hd (HP0.out.grown Ln HNB.out.2.1)
     have HBn := Hd (HB.out.grown Ln HB.out.size (fun b q => by injection q with q; have := HNB.out.2.2; omega))
     clear Gn Ln Zn)
  | fail)
 clear q2 HY HX0 HP0 HB;clear q0;have HY := HYn;have HX0 := HXn;have HP0 := HPn;have HB := HBn;clear HYn HXn HPn HBn;have q4 := HX0.out.cell 4;simp [TD.cells] at q4;go_upto_region 28 with (first
  | (refine zaa rfl 3 (.tmp 142) (.tmp 141) rfl b5 4 147 [.int .i8 3,.int .i8 0,.int .i8 t.w,.int .u64 0,.int .i64 0,.int .i64 0,.int .i64 0] [.int .i64 t.a] (.int .i64 t.a) HY.out (by rfl) (by rfl) rfl (by kernel_rfl) (by simp) (by simp [Value.oneCell']) ?_
     intro wn Gn Ln Zn;have HYn := Hd (by have h := Gn; simp [zaM] at h; exact h : Blk wn b5 147 #[.int .i8 3,.int .i8 0,.int .i8 t.w,.int .u64 0,.int .i64 t.a,.int .i64 0,.int .i64 0])
     have HXn := Hd (HX0.out.grown Ln (fun e => by injection e with e; have := HNB.out.1; omega))
     have HPn := Hd (HP0.out.grown Ln HNB.out.2.1)
     have HBn := Hd (HB.out.grown Ln HB.out.size (fun b q => by injection q with q; have := HNB.out.2.2; omega))
     clear Gn Ln Zn)
  | fail)
 clear q4 HY HX0 HP0 HB;have HY := HYn;have HX0 := HXn;have HP0 := HPn;have HB := HBn;clear HYn HXn HPn HBn;have HYL := Hd (by have h := HY.out; unfold zay; rw [if_neg (by omega),if_neg (by omega),if_neg (by omega),if_neg (by omega),if_pos n0]; exact h : Blk _ b5 147 (zay t).cells.toArray)
 have heq := fun w => zfg HTW.out HLW.out w
 obtain ⟨dl,hdl⟩ : ∃ d,decide (t = zay t) = d := ⟨_,rfl⟩;have HDL := Hd hdl
 rw [hdl] at heq;clear hdl;have z0 := HX0.out.cell 0;have z1 := HX0.out.cell 1;have z2 := HX0.out.cell 2;have z4 := HX0.out.cell 4;have z5 := HX0.out.cell 5;have z6 := HX0.out.cell 6;simp [TD.cells] at z0 z1 z2 z4 z5 z6;have tok1 := True.intro;have tok2 := True.intro
 cases dl
 ·go_wp2_with (first|(clear tok1;refine lT 3 t HX0.out ?_)|(clear tok2;refine lT 5 (zay t) HYL.out ?_)|fail)
  go_ret;exact ⟨by unfold okP okF zcl zax zaI; simp [n0,HDL.out,wdB],HB.out⟩
 ·cases q8 : (t.w == 8)
  ·cases q16 : (t.w == 16)
   ·cases q32 : (t.w == 32)
    ·go_wp2_with (first|(clear tok1;refine lT 3 t HX0.out ?_)|(clear tok2;refine lT 5 (zay t) HYL.out ?_)|fail)
     go_ret;exact ⟨by unfold okP okF zcl zax zaI; simp [n0,HDL.out,q8,q16,q32,wdB],HB.out⟩
    ·have eq32 : t.w = 32 := by simpa using q32
     have Eq32 := Hd eq32
     clear eq32
     cases ha : zal p.T t.a
     ·have Hha := Hd ha
      clear ha;go_wp2_with (first|(clear tok1;refine lT 3 t HX0.out ?_)|(clear tok2;refine lT 5 (zay t) HYL.out ?_)|fail)
      refine (zaL t.a HP0.out).mono ?_;rintro e w' ⟨rfl,rfl⟩;rw [Hha.out];go_wp2;go_ret;exact ⟨by unfold okP okF zcl zax zaI; simp [n0,HDL.out,Eq32.out,Hha.out,wdB],HB.out⟩
     ·have Hha := Hd ha
      clear ha;go_wp2_with (first|(clear tok1;refine lT 3 t HX0.out ?_)|(clear tok2;refine lT 5 (zay t) HYL.out ?_)|fail)
      refine (zaL t.a HP0.out).mono ?_;rintro e w' ⟨rfl,rfl⟩;rw [Hha.out];go_wp2;go_ret;exact ⟨by unfold okP okF zcl zax zaI; simp [n0,HDL.out,Eq32.out,Hha.out,wdB],HB.out⟩
   ·have eq16 : t.w = 16 := by simpa using q16
    have Eq16 := Hd eq16
    clear eq16
    cases ha : zal p.T t.a
    ·have Hha := Hd ha
     clear ha;go_wp2_with (first|(clear tok1;refine lT 3 t HX0.out ?_)|(clear tok2;refine lT 5 (zay t) HYL.out ?_)|fail)
     refine (zaL t.a HP0.out).mono ?_;rintro e w' ⟨rfl,rfl⟩;rw [Hha.out];go_wp2;go_ret;exact ⟨by unfold okP okF zcl zax zaI; simp [n0,HDL.out,Eq16.out,Hha.out,wdB],HB.out⟩
    ·have Hha := Hd ha
     clear ha;go_wp2_with (first|(clear tok1;refine lT 3 t HX0.out ?_)|(clear tok2;refine lT 5 (zay t) HYL.out ?_)|fail)
     refine (zaL t.a HP0.out).mono ?_;rintro e w' ⟨rfl,rfl⟩;rw [Hha.out];go_wp2;go_ret;exact ⟨by unfold okP okF zcl zax zaI; simp [n0,HDL.out,Eq16.out,Hha.out,wdB],HB.out⟩
  ·have eq8 : t.w = 8 := by simpa using q8
   have Eq8 := Hd eq8
   clear eq8
   cases ha : zal p.T t.a
   ·have Hha := Hd ha
    clear ha;go_wp2_with (first|(clear tok1;refine lT 3 t HX0.out ?_)|(clear tok2;refine lT 5 (zay t) HYL.out ?_)|fail)
    refine (zaL t.a HP0.out).mono ?_;rintro e w' ⟨rfl,rfl⟩;rw [Hha.out];go_wp2;go_ret;exact ⟨by unfold okP okF zcl zax zaI; simp [n0,HDL.out,Eq8.out,Hha.out,wdB],HB.out⟩
   ·have Hha := Hd ha
    clear ha;go_wp2_with (first|(clear tok1;refine lT 3 t HX0.out ?_)|(clear tok2;refine lT 5 (zay t) HYL.out ?_)|fail)
    refine (zaL t.a HP0.out).mono ?_;rintro e w' ⟨rfl,rfl⟩;rw [Hha.out];go_wp2;go_ret;exact ⟨by unfold okP okF zcl zax zaI; simp [n0,HDL.out,Eq8.out,Hha.out,wdB],HB.out⟩
theorem zrr (t : TD)(ht : t.wf)(n0 : t.kind = 5)(w : World)(h : zaO w base F g p) : Calls prog 107 #[.pointer (some ⟨g,0,none⟩),zaw t] w fun e w' => e = .returned (.bool (okP p.T t)) ∧ Below w.heap.size w w' := by
 have HP := Hd h
 have HLW := Hd (zdo ht)
 have HTW := Hd ht
 have HB0 := Hd (zav w (.cells t.cells.toArray 147))
 have HX0 := Hd (Blk.new w 147 t.cells.toArray)
 have qb := fun w => zca t.kind w
 clear h ht;unfold zaw;go_enter func107,ntmps107;go_upto_region 1 with fail
 have HNF := Hd (fun b (hb : w.heap.size ≤ b) (q : F b) => by have := (HP.out.fb b q).2; omega : ∀ b,w.heap.size ≤ b → ¬ F b)
 have HP0 := Hd (HP.out.below HB0.out)
 generalize w.alloc (.cells t.cells.toArray 147) = w1 at HB0 HX0 HP0 ⊢;obtain ⟨bx,hbx⟩ : ∃ b,w.heap.size = b := ⟨_,rfl⟩;have HBX := Hd hbx
 rw [hbx] at HX0 ⊢;clear hbx;have HLT := Hd (show bx < w1.heap.size from HX0.out.lt)
 have q0 := HX0.out.cell 0;simp [TD.cells] at q0;go_upto_region 2 with fail
 have HY := Hd (Blk.new w1 147 #[.int .i8 5,.int .i8 0,.int .i8 0,.int .u64 0,.int .i64 0,.int .i64 0,.int .i64 0])
 have HL := Hd (zav w1 (.cells #[.int .i8 5,.int .i8 0,.int .i8 0,.int .u64 0,.int .i64 0,.int .i64 0,.int .i64 0] 147))
 generalize w1.alloc (.cells #[.int .i8 5,.int .i8 0,.int .i8 0,.int .u64 0,.int .i64 0,.int .i64 0,.int .i64 0] 147) = w2 at HY HL ⊢;have HB := Hd (HB0.out.trans (HL.out.mono HB0.out.size))
 replace HX0 := Hd (HX0.out.below HL.out HX0.out.lt)
 replace HP0 := Hd (HP0.out.below HL.out)
 have HNB := Hd (show bx < w1.heap.size ∧ ¬ F w1.heap.size ∧ w.heap.size ≤ w1.heap.size from ⟨HLT.out,HNF.out _ HB0.out.size,HB0.out.size⟩)
 obtain ⟨b5,hb5⟩ : ∃ b,w1.heap.size = b := ⟨_,rfl⟩;rw [hb5] at HY HNB ⊢;clear hb5 HL HB0 HLT q0;have q0 := HX0.out.cell 0;simp [TD.cells] at q0;have q4 := HX0.out.cell 4;simp [TD.cells] at q4;go_upto_region 31 with (first
  | (refine zaa rfl 3 (.tmp 171) (.tmp 170) rfl b5 4 147 [.int .i8 5,.int .i8 0,.int .i8 0,.int .u64 0,.int .i64 0,.int .i64 0,.int .i64 0] [.int .i64 t.a] (.int .i64 t.a) HY.out (by rfl) (by rfl) rfl (by kernel_rfl) (by simp) (by simp [Value.oneCell']) ?_
     intro wn Gn Ln Zn;have HYn := Hd (by have h := Gn; simp [zaM] at h; exact h : Blk wn b5 147 #[.int .i8 5,.int .i8 0,.int .i8 0,.int .u64 0,.int .i64 t.a,.int .i64 0,.int .i64 0])
     have HXn := Hd (HX0.out.grown Ln (fun e => by injection e with e; have := HNB.out.1; omega))
     have HPn := Hd (HP0.out.grown Ln HNB.out.2.1)
     have HBn := Hd (HB.out.grown Ln HB.out.size (fun b q => by injection q with q; have := HNB.out.2.2; omega))
     clear Gn Ln Zn)
  | fail)
 clear q4 HY HX0 HP0 HB;clear q0;have HY := HYn;have HX0 := HXn;have HP0 := HPn;have HB := HBn;clear HYn HXn HPn HBn;have q5 := HX0.out.cell 5;simp [TD.cells] at q5;go_upto_region 32 with (first
  | (refine zaa rfl 3 (.tmp 174) (.tmp 173) rfl b5 5 147 [.int .i8 5,.int .i8 0,.int .i8 0,.int .u64 0,.int .i64 t.a,.int .i64 0,.int .i64 0] [.int .i64 t.b] (.int .i64 t.b) HY.out (by rfl) (by rfl) rfl (by kernel_rfl) (by simp) (by simp [Value.oneCell']) ?_
     intro wn Gn Ln Zn;have HYn := Hd (by have h := Gn; simp [zaM] at h; exact h : Blk wn b5 147 #[.int .i8 5,.int .i8 0,.int .i8 0,.int .u64 0,.int .i64 t.a,.int .i64 t.b,.int .i64 0])
     have HXn := Hd (HX0.out.grown Ln (fun e => by injection e with e; have := HNB.out.1; omega))
     have HPn := Hd (HP0.out.grown Ln HNB.out.2.1)
     have HBn := Hd (HB.out.grown Ln HB.out.size (fun b q => by injection q with q; have := HNB.out.2.2; omega))
     clear Gn Ln Zn)
  | fail)
 clear q5 HY HX0 HP0 HB;have HY := HYn;have HX0 := HXn;have HP0 := HPn;have HB := HBn;clear HYn HXn HPn HBn;have q6 := HX0.out.cell 6;simp [TD.cells] at q6;go_upto_region 33 with (first
  | (refine zaa rfl 3 (.tmp 177) (.tmp 176) rfl b5 6 147 [.int .i8 5,.int .i8 0,.int .i8 0,.int .u64 0,.int .i64 t.a,.int .i64 t.b,.int .i64 0] [.int .i64 t.c] (.int .i64 t.c) HY.out (by rfl) (by rfl) rfl (by kernel_rfl) (by simp) (by simp [Value.oneCell']) ?_
     intro wn Gn Ln Zn;have HYn := Hd (by have h := Gn; simp [zaM] at h; exact h : Blk wn b5 147 #[.int .i8 5,.int .i8 0,.int .i8 0,.int .u64 0,.int .i64 t.a,.int .i64 t.b,.int .i64 t.c])
     have HXn := Hd (HX0.out.grown Ln (fun e => by injection e with e; have := HNB.out.1; omega))
     have HPn := Hd (HP0.out.grown Ln HNB.out.2.1)
     have HBn := Hd (HB.out.grown Ln HB.out.size (fun b q => by injection q with q; have := HNB.out.2.2; omega))
     clear Gn Ln Zn)
  | fail)
 clear q6 HY HX0 HP0 HB;have HY := HYn;have HX0 := HXn;have HP0 := HPn;have HB := HBn;clear HYn HXn HPn HBn;have HYL := Hd (by have h := HY.out; unfold zay; rw [if_neg (by omega),if_neg (by omega),if_neg (by omega),if_neg (by omega),if_neg (by omega),if_pos n0]; exact h : Blk _ b5 147 (zay t).cells.toArray)
 have heq := fun w => zfg HTW.out HLW.out w
 obtain ⟨dl,hdl⟩ : ∃ d,decide (t = zay t) = d := ⟨_,rfl⟩;have HDL := Hd hdl
 rw [hdl] at heq;clear hdl;have z0 := HX0.out.cell 0;have z1 := HX0.out.cell 1;have z2 := HX0.out.cell 2;have z4 := HX0.out.cell 4;have z5 := HX0.out.cell 5;have z6 := HX0.out.cell 6;simp [TD.cells] at z0 z1 z2 z4 z5 z6;have tok1 := True.intro;have tok2 := True.intro
 cases dl
 ·go_wp2_with (first|(clear tok1;refine lT 3 t HX0.out ?_)|(clear tok2;refine lT 5 (zay t) HYL.out ?_)|fail)
  go_ret;exact ⟨by unfold okP okF zcl zax zaI; simp [n0,HDL.out],HB.out⟩
 ·cases ha : zal p.T t.a
  ·have Hha := Hd ha
   clear ha;go_wp2_with (first|(clear tok1;refine lT 3 t HX0.out ?_)|(clear tok2;refine lT 5 (zay t) HYL.out ?_)|fail)
   refine (zaL t.a HP0.out).mono ?_;rintro e w' ⟨rfl,rfl⟩;rw [Hha.out];go_wp2;go_ret;exact ⟨by unfold okP okF zcl zax zaI; simp [n0,HDL.out,Hha.out],HB.out⟩
  ·have Hha := Hd ha
   clear ha;go_wp2_with (first|(clear tok1;refine lT 3 t HX0.out ?_)|(clear tok2;refine lT 5 (zay t) HYL.out ?_)|fail)
   refine (zaL t.a HP0.out).mono ?_;rintro e w' ⟨rfl,rfl⟩;rw [Hha.out]
   cases hb : zal p.T t.b
   ·have Hhb := Hd hb
    clear hb;go_wp2_with (first|(clear tok1;refine lT 3 t HX0.out ?_)|(clear tok2;refine lT 5 (zay t) HYL.out ?_)|fail)
    refine (zaL t.b HP0.out).mono ?_;rintro e w' ⟨rfl,rfl⟩;rw [Hhb.out];go_wp2;go_ret;exact ⟨by unfold okP okF zcl zax zaI; simp [n0,HDL.out,Hha.out,Hhb.out],HB.out⟩
   ·have Hhb := Hd hb
    clear hb;go_wp2_with (first|(clear tok1;refine lT 3 t HX0.out ?_)|(clear tok2;refine lT 5 (zay t) HYL.out ?_)|fail)
    refine (zaL t.b HP0.out).mono ?_;rintro e w' ⟨rfl,rfl⟩;rw [Hhb.out]
    cases hc : zal p.T t.c
    ·have Hhc := Hd hc
     clear hc;go_wp2_with (first|(clear tok1;refine lT 3 t HX0.out ?_)|(clear tok2;refine lT 5 (zay t) HYL.out ?_)|fail)
     refine (zaL t.c HP0.out).mono ?_;rintro e w' ⟨rfl,rfl⟩;rw [Hhc.out];go_wp2;go_ret;exact ⟨by unfold okP okF zcl zax zaI; simp [n0,HDL.out,Hha.out,Hhb.out,Hhc.out],HB.out⟩
    ·have Hhc := Hd hc
     clear hc;go_wp2_with (first|(clear tok1;refine lT 3 t HX0.out ?_)|(clear tok2;refine lT 5 (zay t) HYL.out ?_)|fail)
     refine (zaL t.c HP0.out).mono ?_;rintro e w' ⟨rfl,rfl⟩;rw [Hhc.out];go_wp2;go_ret;exact ⟨by unfold okP okF zcl zax zaI; simp [n0,HDL.out,Hha.out,Hhb.out,Hhc.out],HB.out⟩
end
end
section
theorem zlU (a : Addr) : a.add 0 = a := by unfold Addr.add; split <;> simp_all
theorem zoa (a : Addr) : a.add 2 = ⟨a.block,a.off + 2,none⟩ := rfl
theorem zkz (a : Addr) : a.add 3 = ⟨a.block,a.off + 3,none⟩ := rfl
theorem zlV {p : PS}(hw : WfP p){k : Nat}{u t : TD}(hu : p.T[k]? = some u)(hk : u.kind = 1)(hn : u.n = t.n)(hd : u.w ≠ t.w)(h1 : t.kind = 1) : zaI p.T t = true := by
 have := hw.wideF hu hk;unfold zaI;rw [← hn,this];simp [h1,hd]
theorem zob {p : PS}{t : TD}(h1 : t.kind = 1)(h : ∀ (j : Nat) (u : TD),p.T[j]? = some u → u.kind = 1 → u.n = t.n → u.w = t.w) : zaI p.T t = false := by
 unfold zaI;rw [h1]
 cases e : wideF p.T t.n with
 | none => rfl
 | some x =>
  obtain ⟨i,u,hi,hk,hn,rfl⟩ := ze5 e;simp [h i u hi hk hn]
structure MVq (base g : Nat)(F : Nat → Prop)(p : PS)(t u : TD)(bx b5 : Nat)(w W : World) : Prop where
 pool : zaO W base F g p
 one : Blk W bx 147 t.cells.toArray
 two : Blk W b5 147 u.cells.toArray
 below : Below w.heap.size w W
section
variable {base g bx b5 : Nat}{F : Nat → Prop}{p : PS}{t u : TD}{w W V : World}
theorem MVq.step (h : MVq base g F p t u bx b5 w W)(hb : Below W.heap.size W V) : MVq base g F p t u bx b5 w V :=
 ⟨h.pool.below hb,h.one.below hb h.one.lt,h.two.below hb h.two.lt,h.below.trans (hb.mono h.below.size)⟩
end
section
variable {base g : Nat}{F : Nat → Prop}{p : PS}
theorem zrs (t : TD)(ht : t.wf)(n0 : t.kind = 1)(w : World)(h : zaO w base F g p) : Calls prog 107 #[.pointer (some ⟨g,0,none⟩),zaw t] w fun e w' => e = .returned (.bool (okP p.T t)) ∧ Below w.heap.size w w' := by
 have HP := Hd h
 have HLW := Hd (zdo ht)
 have HTW := Hd ht
 have HB0 := Hd (zav w (.cells t.cells.toArray 147))
 have HX0 := Hd (Blk.new w 147 t.cells.toArray)
 have qb := fun w => zca t.kind w
 clear h ht;unfold zaw;go_enter func107,ntmps107;go_upto_region 1 with fail
 have HNF := Hd (fun b (hb : w.heap.size ≤ b) (q : F b) => by have := (HP.out.fb b q).2; omega : ∀ b,w.heap.size ≤ b → ¬ F b)
 have HP0 := Hd (HP.out.below HB0.out)
 generalize w.alloc (.cells t.cells.toArray 147) = w1 at HB0 HX0 HP0 ⊢;obtain ⟨bx,hbx⟩ : ∃ b,w.heap.size = b := ⟨_,rfl⟩;have HBX := Hd hbx
 rw [hbx] at HX0 ⊢;clear hbx;have HLT := Hd (show bx < w1.heap.size from HX0.out.lt)
 have q0 := HX0.out.cell 0;simp [TD.cells] at q0;go_upto_region 2 with fail
 have HY := Hd (Blk.new w1 147 #[.int .i8 1,.int .i8 0,.int .i8 0,.int .u64 0,.int .i64 0,.int .i64 0,.int .i64 0])
 have HL := Hd (zav w1 (.cells #[.int .i8 1,.int .i8 0,.int .i8 0,.int .u64 0,.int .i64 0,.int .i64 0,.int .i64 0] 147))
 generalize w1.alloc (.cells #[.int .i8 1,.int .i8 0,.int .i8 0,.int .u64 0,.int .i64 0,.int .i64 0,.int .i64 0] 147) = w2 at HY HL ⊢;have HB := Hd (HB0.out.trans (HL.out.mono HB0.out.size))
 replace HX0 := Hd (HX0.out.below HL.out HX0.out.lt)
 replace HP0 := Hd (HP0.out.below HL.out)
 have HNB := Hd (show bx < w1.heap.size ∧ ¬ F w1.heap.size ∧ w.heap.size ≤ w1.heap.size from ⟨HLT.out,HNF.out _ HB0.out.size,HB0.out.size⟩)
 obtain ⟨b5,hb5⟩ : ∃ b,w1.heap.size = b := ⟨_,rfl⟩;rw [hb5] at HY HNB ⊢;clear hb5 HL HB0 HLT q0;have q0 := HX0.out.cell 0;simp [TD.cells] at q0;have q3 := HX0.out.cell 3;simp [TD.cells] at q3;go_upto_region 8 with (first
  | (refine zaa rfl 31 (.tmp 25) (.tmp 24) rfl b5 3 147 [.int .i8 1,.int .i8 0,.int .i8 0,.int .u64 0,.int .i64 0,.int .i64 0,.int .i64 0] [.int .u64 t.n] (.int .u64 t.n) HY.out (by rfl) (by rfl) rfl (by kernel_rfl) (by simp) (by simp [Value.oneCell']) ?_
     intro wn Gn Ln Zn;have HYn := Hd (by have h := Gn; simp [zaM] at h; exact h : Blk wn b5 147 #[.int .i8 1,.int .i8 0,.int .i8 0,.int .u64 t.n,.int .i64 0,.int .i64 0,.int .i64 0])
     have HXn := Hd (HX0.out.grown Ln (fun e => by injection e with e; have := HNB.out.1; omega))
     have HPn := Hd (HP0.out.grown Ln HNB.out.2.1)
     have HBn := Hd (HB.out.grown Ln HB.out.size (fun b q => by injection q with q; have := HNB.out.2.2; omega))
     clear Gn Ln Zn)
  | fail)
 clear q3 HY HX0 HP0 HB;clear q0;have HY := HYn;have HX0 := HXn;have HP0 := HPn;have HB := HBn;clear HYn HXn HPn HBn;have q2 := HX0.out.cell 2;simp [TD.cells] at q2;go_upto_region 9 with (first
  | (refine zaa rfl 30 (.tmp 28) (.tmp 27) rfl b5 2 147 [.int .i8 1,.int .i8 0,.int .i8 0,.int .u64 t.n,.int .i64 0,.int .i64 0,.int .i64 0] [.int .i8 t.w] (.int .i8 t.w) HY.out (by rfl) (by rfl) rfl (by kernel_rfl) (by simp) (by simp [Value.oneCell']) ?_
     intro wn Gn Ln Zn;have HYn := Hd (by have h := Gn; simp [zaM] at h; exact h : Blk wn b5 147 #[.int .i8 1,.int .i8 0,.int .i8 t.w,.int .u64 t.n,.int .i64 0,.int .i64 0,.int .i64 0])
     have HXn := Hd (HX0.out.grown Ln (fun e => by injection e with e; have := HNB.out.1; omega))
     have HPn := Hd (HP0.out.grown Ln HNB.out.2.1)
     have HBn := Hd (HB.out.grown Ln HB.out.size (fun b q => by injection q with q; have := HNB.out.2.2; omega))
     clear Gn Ln Zn)
  | fail)
 clear q2 HY HX0 HP0 HB;have HY := HYn;have HX0 := HXn;have HP0 := HPn;have HB := HBn;clear HYn HXn HPn HBn;have HM : Hid (MVq base g F p t (zay t) bx b5 w _) := Hd (by have h := HY.out; refine ⟨HP0.out,HX0.out,?_,HB.out⟩; unfold zay; rw [if_neg (by omega),if_pos n0]; exact h)
 have heq := fun w => zfg HTW.out HLW.out w
 obtain ⟨dl,hdl⟩ : ∃ d,decide (t = zay t) = d := ⟨_,rfl⟩;have HDL := Hd hdl
 rw [hdl] at heq;clear hdl HP0 HX0 HY HB HTW HLW HP;obtain ⟨n,hn⟩ : ∃ n,p.T.length = n := ⟨_,rfl⟩;have hf := HM.out.pool.few;rw [hn] at hf;have HN := Hd hn
 clear hn;have N0 := Hd n0
 go_upto_region 10 with fail
 go_loopw [6] (fun iv wr => ∃ k : Nat,k ≤ n ∧ iv = .int .i64 (k : Int) ∧ MVq base g F p t (zay t) bx b5 w wr ∧ ∀ (j : Nat) (u : TD),j < k → p.T[j]? = some u → u.kind = 1 → u.n = t.n → u.w = t.w) (fun iv _ => n - (intOf iv).toNat)
 case atStart => exact ⟨0,by omega,rfl,HM.out,fun j u h => by omega⟩
 case round =>
  obtain ⟨k,hk,rfl,hm,hall⟩ := hrel;have HMR := Hd hm
  have HALL := Hd hall
  clear hm hall HM;obtain ⟨A,c,D,d,h1,h2,_,_,_,_⟩ := HMR.out.pool.view;rw [HN.out] at h1 h2;have e0 := HMR.out.one.cell 0;have e2 := HMR.out.one.cell 2;have e3 := HMR.out.one.cell 3;simp [TD.cells] at e0 e2 e3
  by_cases hlt : k < n
  ·obtain ⟨ad,c',u,h1',h2',hu,huw,hc⟩ := HMR.out.pool.at_ (k := k) (by rw [HN.out]; exact hlt)
   rw [HN.out] at h1' h2';have g0 := hc 0 _ rfl;simp only [zlU] at g0;have g2 := hc 2 _ rfl;have g3 := hc 3 _ rfl;have g2b := g2;have g3b := g3;simp only [zoa,zkz] at g2b g3b;clear h1 h2 hc;have HU := Hd hu
   clear hu huw;have hkc : k < c' := by omega
   cases hk1 : (u.kind == 1)
   ·go_wp2
    go_quiet (fail)
    go_wp2;go_roundw
    case measure => simp [intOf]; omega
    case rel =>
     refine ⟨k + 1,by omega,by go_num,HMR.out.step (zad (Below.refl _ _) nq),fun j v hj hv q1 q2 => ?_⟩
     rcases ztH j k with q | q
     ·exact HALL.out j v q hv q1 q2
     ·obtain rfl : j = k := by omega
      rw [HU.out] at hv;injection hv with hv
      subst hv
      simp_all
   ·cases hk2 : (u.n == t.n)
    ·go_wp2
     go_quiet (fail)
     go_wp2;go_roundw
     case measure => simp [intOf]; omega
     case rel =>
      refine ⟨k + 1,by omega,by go_num,HMR.out.step (zad (Below.refl _ _) nq),fun j v hj hv q1 q2 => ?_⟩
      rcases ztH j k with q | q
      ·exact HALL.out j v q hv q1 q2
      ·obtain rfl : j = k := by omega
       rw [HU.out] at hv;injection hv with hv
       subst hv
       simp_all
    ·cases hk3 : (u.w != t.w)
     ·go_wp2
      go_quiet (fail)
      go_wp2;go_roundw
      case measure => simp [intOf]; omega
      case rel =>
       refine ⟨k + 1,by omega,by go_num,HMR.out.step (zad (Below.refl _ _) nq),fun j v hj hv q1 q2 => ?_⟩
       rcases ztH j k with q | q
       ·exact HALL.out j v q hv q1 q2
       ·obtain rfl : j = k := by omega
        rw [HU.out] at hv;injection hv with hv
        subst hv
        simp_all
     ·go_wp2
      go_quiet (fail)
      go_wp2;go_ret;exact ⟨by
       have hcl := zlV HMR.out.pool.wf HU.out (by simpa using hk1) (by simpa using hk2) (by simpa using hk3) N0.out;unfold okP;simp [hcl],(HMR.out.step (zad (Below.refl _ _) nq)).below⟩
  ·obtain rfl : k = n := by omega
   have hcl : zaI p.T t = false := zob N0.out fun j u hu => HALL.out j u (by have := (ztt.1 hu).1; rw [HN.out] at this; exact this) hu
   have HCL := Hd hcl
   clear hcl;have tok1 := True.intro;have tok2 := True.intro
   cases dl
   ·go_wp2_with (first|(clear tok1;refine lT 3 t HMR.out.one ?_)|(clear tok2;refine lT 5 (zay t) HMR.out.two ?_)|fail)
    go_ret;exact ⟨by unfold okP okF; simp [HDL.out],HMR.out.below⟩
   ·go_wp2_with (first|(clear tok1;refine lT 3 t HMR.out.one ?_)|(clear tok2;refine lT 5 (zay t) HMR.out.two ?_)|fail)
    refine (zbn t.w _).mono ?_;rintro e w' ⟨rfl,rfl⟩;go_wp2;go_ret;exact ⟨by unfold okP okF zcl zax; simp [N0.out,HDL.out,HCL.out],HMR.out.below⟩
end
end
section
theorem zrt (g : Nat)(w : World) : (Instr.fieldAt 104 (.pointer (some ⟨g,0,none⟩)) 0).run prog w = .ok (.pointer (some ⟨g,0,none⟩)) w := by go_simp
structure RU (base : Nat)(F : Nat → Prop)(g bt : Nat)(p : PS)(t : TD)(w W : World) : Prop where
 pool : zaO W base F g p
 box : Blk W bt 147 t.cells.toArray
 bt : bt = w.heap.size
 below : Below w.heap.size w W
 old : ∀ b,F b → b < w.heap.size
section
variable {base g bt : Nat}{F : Nat → Prop}{p : PS}{t : TD}{w W V : World}
theorem RU.step (h : RU base F g bt p t w W)(hb : Below W.heap.size W V) : RU base F g bt p t w V :=
 ⟨h.pool.below hb,h.box.below hb h.box.lt,h.bt,h.below.trans (hb.mono h.below.size),h.old⟩
theorem RU.no (h : RU base F g bt p t w W)(e : zcm p t = p){n r : Int}(hn : zcP p t = (n,r)) : zc7 base g F w (putR p t) (.returned (.tuple #[.int .i64 n,.int .i64 r])) W :=
 ⟨by unfold putR; rw [hn],F,by show zaO W base F g (zcm p t); rw [e]; exact h.pool,⟨h.below.os,h.below.tape,h.below.output,h.below.size,fun i hi _ => h.below.block i hi⟩,fun b q => .inl q⟩
end
theorem zru (t : TD)(ht : t.wf)(hk : ¬ (t.kind = 0 ∨ t.kind = 1 ∨ t.kind = 2 ∨ t.kind = 3 ∨ t.kind = 4 ∨ t.kind = 5))(w : World){base g : Nat}{F : Nat → Prop}{p : PS}(h : zaO w base F g p) : Calls prog 107 #[.pointer (some ⟨g,0,none⟩),zaw t] w fun e w' => e = .returned (.bool (okP p.T t)) ∧ Below w.heap.size w w' := by
 have hno : okP p.T t = false := by
  unfold okP okF zcl;rw [if_neg (by omega),if_neg (by omega),if_neg (by omega),if_neg (by omega),if_neg (by omega)];simp; omega
 rw [hno];have HB0 := Hd (zav w (.cells t.cells.toArray 147))
 have HX0 := Hd (Blk.new w 147 t.cells.toArray)
 have k0 : (t.kind == 0) = false := by simp; omega
 have k1 : (t.kind == 1) = false := by simp; omega
 have k2 : (t.kind == 2) = false := by simp; omega
 have k3 : (t.kind == 3) = false := by simp; omega
 have k4 : (t.kind == 4) = false := by simp; omega
 have k5 : (t.kind == 5) = false := by simp; omega
 have qb := fun w => zca t.kind w
 clear h ht hno hk;unfold zaw;go_enter func107,ntmps107;go_upto_region 1 with fail
 generalize w.alloc (.cells t.cells.toArray 147) = w1 at HB0 HX0 ⊢;obtain ⟨bx,hbx⟩ : ∃ b,w.heap.size = b := ⟨_,rfl⟩;rw [hbx] at HX0 ⊢;clear hbx;have q0 := HX0.out.cell 0;simp [TD.cells] at q0;go_upto_region 2 with fail
 have HL := Hd (zav w1 (.cells #[.int .i8 t.kind,.int .i8 0,.int .i8 0,.int .u64 0,.int .i64 0,.int .i64 0,.int .i64 0] 147))
 generalize w1.alloc (.cells #[.int .i8 t.kind,.int .i8 0,.int .i8 0,.int .u64 0,.int .i64 0,.int .i64 0,.int .i64 0] 147) = w2 at HL ⊢;have HX1 := Hd (HX0.out.below HL.out HX0.out.lt)
 have HB := Hd (HB0.out.trans (HL.out.mono HB0.out.size))
 clear q0 HX0 HB0 HL;have q0 := HX1.out.cell 0;simp [TD.cells] at q0;go_wp2;go_ret;exact ⟨rfl,HB.out⟩
theorem zoc (t : TD)(ht : t.wf)(w : World){base g : Nat}{F : Nat → Prop}{p : PS}(h : zaO w base F g p) : Calls prog 107 #[.pointer (some ⟨g,0,none⟩),zaw t] w fun e w' => e = .returned (.bool (okP p.T t)) ∧ Below w.heap.size w w' := by
 by_cases k0 : t.kind = 0
 ·exact zrI t ht k0 w h
 by_cases k1 : t.kind = 1
 ·exact zrs t ht k1 w h
 by_cases k2 : t.kind = 2
 ·exact zrJ t ht k2 w h
 by_cases k3 : t.kind = 3
 ·exact zrq t ht k3 w h
 by_cases k4 : t.kind = 4
 ·exact zrK t ht k4 w h
 by_cases k5 : t.kind = 5
 ·exact zrr t ht k5 w h
 ·exact zru t ht (by omega) w h
theorem zlW {D : List Int}{l : List Int}{k : Nat}{x y : Int}(hx : l[k]? = some x)(hy : D[x.toNat]? = some y) : zd6 D (l.take (k + 1)) = max (zd6 D (l.take k)) (y + 1) := by
 rw [zd4 hx];unfold zd6;rw [List.foldl_append,zua,List.foldl_nil,zts,hy]
 rfl
theorem zeb {w : World}{B C size n : Nat}{A : Option Addr}{xs : List Value}(h : zaU w B size A n xs)(hb : B ≤ C) : zaU w C size A n xs := ⟨h.1,fun hn => by obtain ⟨ad,e,hl,hc⟩ := h.2 hn; exact ⟨ad,e,by omega,hc⟩⟩
theorem zf8.below {w w' : World}{v : Value}{xs : List Int}(h : zf8 w v xs)(hb : Below w.heap.size w w') : zf8 w' v xs := by
 obtain ⟨A,c,h1,h2,h3⟩ := h;exact ⟨A,c,h1,h2,zeb (h3.below hb) hb.size⟩
theorem zda {base g : Nat}{F : Nat → Prop}{p : PS}(t : TD)(ht : t.wf)(w : World)(h : zaO w base F g p)(hbase : base ≤ w.heap.size) :
  Calls prog 70 #[.pointer (some ⟨g,0,none⟩),zaw t] w (zc7 base g F w (putR p t)) := by
 have HT := Hd ht
 have HU : Hid (RU base F g w.heap.size p t w (w.alloc (.cells t.cells.toArray 147))) :=
  ⟨h.below ((Below.refl _ _).alloc (ztn _) _),Blk.new w _ _,rfl,(Below.refl _ _).alloc (ztn _) _,fun b q => (h.fb b q).2⟩
 clear ht h;unfold zaw;go_enter func70,ntmps70;go_upto_region 3 with fail
 obtain ⟨w1,hw1⟩ : ∃ w1,w.alloc (.cells t.cells.toArray 147) = w1 := ⟨_,rfl⟩;obtain ⟨bt,hbt⟩ : ∃ b,w.heap.size = b := ⟨_,rfl⟩;rw [hw1] at HU ⊢;rw [hbt] at HU ⊢;clear hw1 hbt;go_wp2_with (first
  | (refine zae rfl 147 (.tmp 3) rfl ⟨bt,0,none⟩ (by rfl) t.cells _ (zak HU.out.box) underlying147 rfl zcL ?_)
  | fail)
 refine (zoc t HT.out _ HU.out.pool).mono ?_;rintro e w2 ⟨rfl,hb⟩;replace HU := Hd (HU.out.step hb)
 clear hb
 cases hok : okP p.T t
 ·have HOK := Hd hok
  clear hok;go_wp2;go_ret2;exact HU.out.no (by unfold zcm; rw [HOK.out]; simp) (by unfold zcP; rw [HOK.out]; rfl)
 have HOK := Hd hok
 clear hok;obtain ⟨n,hn⟩ : ∃ n,p.T.length = n := ⟨_,rfl⟩;have hfew := HU.out.pool.few;rw [hn] at hfew;have HN := Hd hn
 clear hn;go_upto_region 6 with fail
 go_loopw [6] (fun iv wr => ∃ k : Nat,k ≤ n ∧ iv = .int .i64 (k : Int) ∧ RU base F g bt p t w wr ∧ ∀ (j : Nat),j < k → p.T[j]? ≠ some t) (fun iv _ => n - (intOf iv).toNat)
 case atStart => exact ⟨0,by omega,rfl,HU.out,fun j h => by omega⟩
 case round =>
  obtain ⟨k,hk,rfl,hm,hall⟩ := hrel;have HV := Hd hm
  have HALL := Hd hall
  clear hm hall HU;obtain ⟨A,c,D,d,h1,h2,_,_,_,_⟩ := HV.out.pool.view;rw [HN.out] at h1 h2
  by_cases hlt : k < n
  ·obtain ⟨ad,c',u,h1',h2',hu,huw,hc⟩ := HV.out.pool.at_ (k := k) (by rw [HN.out]; exact hlt)
   rw [HN.out] at h1' h2';have HC := Hd hc
   have HU2 := Hd hu
   have heq := fun w => zfg huw HT.out w
   obtain ⟨du,hdu⟩ : ∃ d,decide (u = t) = d := ⟨_,rfl⟩;have HDU := Hd hdu
   rw [hdu] at heq;clear h1 h2 hc hu huw hdu;have hkc : k < c' := by omega
   go_wp2;refine wp_region_quiet_lit (by kernel_rfl) (by kernel_rfl) ?_
   repeat (first
    | (refine zdV rfl 147 (.tmp 30) rfl (ad.add (k * 7)) (by rfl) u.cells _ HC.out underlying147 rfl zcL ?_; go_simp)
    | (refine zdV rfl 147 (.tmp 3) rfl ⟨bt,0,none⟩ (by rfl) t.cells _ (zak HV.out.box) underlying147 rfl zcL ?_; go_simp)
    | go_big_quiet_step (fail))
   refine wpQuiet_nil ?_
   first
    | (intro wq hwq; obtain ⟨nq,rfl⟩ := hwq)
    | intro nq
   replace HV := Hd (HV.out.step (zad (Below.refl _ _) nq))
   generalize wr.drewN nq = w5 at HV ⊢;clear heq h1'
   cases du
   ·go_wp2
    go_roundw
    case measure => simp [intOf]; omega
    case rel =>
     refine ⟨k + 1,by omega,by go_num,HV.out,fun j hj => ?_⟩
     rcases ztH j k with q | q
     ·exact HALL.out j q
     ·obtain rfl : j = k := by omega
      rw [HU2.out];intro e;injection e with e
      have := HDU.out;simp [e] at this
   ·go_wp2
    go_ret2;have e : u = t := by simpa using HDU.out
    have hp := zib HV.out.pool.wf (show p.T[k]? = some t by rw [HU2.out,e]);exact HV.out.no hp.1 hp.2
  ·obtain rfl : n = k := by omega
   have hno : atT p.T t = none := by
    cases e : atT p.T t with
    | none => rfl
    | some i =>
     have := zhy e;exact absurd this (HALL.out i (by have := (ztt.1 this).1; rw [HN.out] at this; exact this))
   have HNO := Hd hno
   clear hno HALL hk hlt;go_upto_region 11 with fail
   clear h1 h2;go_wp2_with (first
    | (refine zae rfl 147 (.tmp 3) rfl ⟨bt,0,none⟩ (by rfl) t.cells _ (zak HV.out.box) underlying147 rfl zcL ?_)
    | fail)
   refine (zkP t _).mono ?_;rintro e w3 ⟨pv,rfl,hrow,hb⟩;replace HV := Hd (HV.out.step hb)
   clear hb;obtain ⟨m,hm⟩ : ∃ m,(zax t).length = m := ⟨_,rfl⟩;have HM := Hd hm
   have hl3 := zfB t;rw [hm] at hl3;have HRW := Hd hrow
   obtain ⟨A2,c2,rfl,hc2,_⟩ := hrow;rw [hm] at hc2 HRW ⊢;clear hm;go_upto_region 13 with fail
   go_loopw [7,9] (fun dv iv wr => ∃ (k : Nat) (d : Int),k ≤ m ∧ dv = .int .i64 d ∧ iv = .int .i64 (k : Int) ∧ 1 ≤ d ∧ d ≤ 300 ∧ d = zd6 p.D ((zax t).take k) ∧ RU base F g bt p t w wr ∧ zf8 wr (.slice A2 m c2) (zax t)) (fun _ iv _ => m - (intOf iv).toNat)
   case atStart => exact ⟨0,1,by omega,rfl,rfl,by omega,by omega,rfl,HV.out,HRW.out⟩
   case round =>
    obtain ⟨j,d,hj,rfl,rfl,hd1,hd2,hd,hm,hrow⟩ := hrel;have HDJ := Hd hd
    have HVJ := Hd hm
    have HRJ := Hd hrow
    clear hd hm hrow HV HRW
    by_cases hjm : j < m
    ·obtain ⟨A3,c3,e3,_,hrd⟩ := HRJ.out
     injection e3 with ea el ec
     subst ea ec;obtain ⟨ad3,x,rfl,_,hx,hcx⟩ := hrd.at_ (k := j) (by omega);rw [ztw,ztq (by rw [HM.out]; exact hjm)] at hx;injection hx with hx
     subst hx;have HX := Hd (ztq (l := zax t) (i := j) (by rw [HM.out]; exact hjm))
     generalize (zax t)[j]'(by rw [HM.out]; exact hjm) = x at HX hcx;have hin := (zdU HOK.out).2.1 x (ztv HX.out);obtain ⟨i,rfl⟩ : ∃ i : Nat,x = i := ⟨x.toNat,by omega⟩;have hi : i < p.T.length := by omega
     obtain ⟨A4,c4,D4,d4,_,_,_,g4,g5,g6⟩ := HVJ.out.pool.view;obtain ⟨ad4,y,rfl,_,hy,hcy⟩ := g6.at_ hi;have hyl : i < p.D.length := by rw [HVJ.out.pool.wf.len]; exact hi
     rw [ztw,ztq hyl] at hy;injection hy with hy
     subst hy;have HY := Hd (ztq hyl)
     generalize p.D[i]'hyl = y at HY hcy;have hylo := HVJ.out.pool.wf.low _ (ztv HY.out);rw [HN.out] at g4 g5 hi;clear hrd g6 hin;have hid : i < d4 := by omega
     have hjc : j < c2 := by omega
     go_upto_region 15 with fail
     go_region
     all_goals
      go_wp2;go_roundw
      case measure => simp [intOf]; omega
      case rel => exact ⟨j + 1,max d (y + 1),by omega,by first | rfl | (congr 1; omega),by go_num,by omega,by omega,by rw [zlW HX.out HY.out,HDJ.out],HVJ.out.step ((Below.refl _ _).drew),HRJ.out.below ((Below.refl _ _).drew)⟩
    ·obtain rfl : j = m := by omega
     have hdm : d = zd6 p.D (zax t) := by rw [HDJ.out,← HM.out,List.take_length]
     have HD := Hd hdm
     clear HDJ hdm HRJ hj hjm hl3 HM;obtain ⟨A4,c4,D4,d4,g1,g2,_,_,_,_⟩ := HVJ.out.pool.view;rw [HN.out] at g1 g2
     by_cases hlim : 4000 ≤ n
     ·as_aux_lemma =>
       go_wp2;go_ret2;exact HVJ.out.no (by unfold zcm; rw [if_neg]; rintro ⟨_,_,h,_⟩; rw [HN.out] at h; omega) (by unfold zcP; rw [HOK.out,HNO.out,HN.out]; simp [hlim])
     by_cases hdl : 256 < d
     ·as_aux_lemma =>
       go_wp2;go_ret2;exact HVJ.out.no (by unfold zcm; rw [if_neg]; rintro ⟨_,_,_,h⟩; rw [← HD.out] at h; omega) (by unfold zcP; rw [HOK.out,HNO.out,← HD.out]; simp [hdl])
     go_wp2;have HLIM := Hd (ztp hlim hdl)
     obtain ⟨ls,ds,hG,hL,hD,f1,f4,f5⟩ := HVJ.out.pool.ex;rw [HN.out] at hL hD;have HR0 := RW.mk HVJ.out.box hG hL hD ⟨HVJ.out.below.os,HVJ.out.below.tape,HVJ.out.below.output,HVJ.out.below.size,fun i hi _ => HVJ.out.below.block i hi⟩ (fun b q => .inl (f4 b q)) (fun b q => .inl (f5 b q)) f1 HVJ.out.bt HVJ.out.old;have HR := Hd (HR0.step ((Below.refl _ _).drew))
     have HFX := Hd f4
     have HFY := Hd f5
     have HRNG := Hd HVJ.out.pool.rng
     have HWF := Hd HVJ.out.pool.wf
     have HFB := Hd (fun b q => (HVJ.out.pool.fb b q).1 : ∀ b,F b → base ≤ b)
     clear hG hL hD f1 f4 f5 HR0 HVJ g1 g2;obtain ⟨iM,hiM,hzM,hsM,hbM⟩ := info_parts zrF;have IM := Hd (ztp hiM (ztp hzM (ztp hsM hbM)))
     clear hiM hzM hsM hbM;obtain ⟨iN,hiN,hzN,hsN,hbN⟩ := info_parts zot;have IN := Hd (ztp hiN (ztp hzN (ztp hsN hbN)))
     clear hiN hzN hsN hbN;refine zac (fun w' => Blk w' bt 147 t.cells.toArray) (fun w' => Blk w' g 104 #[ls,ds]) [10] (by kernel_rfl) ?_;generalize wr.drew = w6 at HR ⊢;refine em 0 (.pointer (some ⟨g,0,none⟩)) (.both HR.out.box HR.out.pool) ?_;refine em 1 (.pointer (some ⟨g,0,none⟩)) (.both HR.out.box HR.out.pool) ?_;refine ez 2 ⟨g,0,none⟩ (.both HR.out.box HR.out.pool) ?_;refine zdW 3 (some 69) 104 (.tmp 68) 0 ⟨g,0,none⟩ ⟨g,0,none⟩ rfl (by kernel_rfl) (by rfl) (fun _ _ _ h => h) (by rfl) (zrt g) (.both HR.out.box HR.out.pool) ?_;simp only [pt,pn,sL];refine el true 4 ⟨g,0,none⟩ (ls) underlying100 (fun w hS => ((hS.2 rfl).cell 0)) (.both HR.out.box HR.out.pool) ?_;refine eL false 5 ⟨bt,0,none⟩ t.cells (fun w hS => zak hS.1) underlying147 zcL (.both HR.out.box HR.out.pool) ?_;refine zaN 6 (by kernel_rfl) (zar.slice_one 6 (some 72) 100 147 (.tmp 71) iM _ (zaw t) rfl (by rfl) underlying100 IM.out.1 IM.out.2.1 (by rw [IM.out.2.2.1]; decide) (by rw [IM.out.2.2.1]; decide) (by rfl) (by rw [IM.out.2.2.1]; rfl) ?_);intro wa ga hga Ba La;have HBA := Hd Ba
     replace HR := Hd (HR.out.step La)
     clear Ba La hga;refine ⟨.both HR.out.box HR.out.pool,?_⟩;simp only [pt,pn,sL];refine zaN 7 (by kernel_rfl) (zar.append 7 (some 73) 100 147 (.tmp 70) (.tmp 72) base iM _ 7 40 rfl (by rfl) underlying100 IM.out.1 IM.out.2.1 IM.out.2.2.1 IM.out.2.2.2 rfl (by omega) ls n (p.T.flatMap TD.cells) (by rfl) HR.out.rx _ (some ⟨ga,0,none⟩) 1 1 t.cells (by rfl) (zbH (xs := t.cells) HBA.out 1 7 rfl) (TD.one t) (by unfold maxLen; omega) (by omega) (by have := HR.out.chg.size; omega) ?_);intro ls2 wb R2 G2 O2;obtain ⟨gx,cx,hx,_⟩ := (zbr.of_own R2).form (by omega);subst hx;replace HR := Hd (HR.out.appx HFX.out R2 G2 O2)
     clear R2 G2 O2 HBA;refine ⟨.both HR.out.box HR.out.pool,?_⟩;simp only [pt,pn,sL];refine zaN 8 (by kernel_rfl) (zar.nil 8 (some 74) (.tmp 66) ⟨g,0,none⟩ rfl (by rfl) (by rfl) (.both HR.out.box HR.out.pool) ?_);simp only [pt,pn,sL];refine zaN 9 (by kernel_rfl) (zar.field 9 (some 75) 104 (.tmp 74) 0 ⟨g,0,none⟩ ⟨g,0,none⟩ rfl (by rfl) (by rfl) (zrt g) (.both HR.out.box HR.out.pool) ?_);simp only [pt,pn,sL];refine zaN 10 (by kernel_rfl) (zar.store_cell 10 100 104 (.tmp 75) (.tmp 73) g 0 _ (.slice (some ⟨gx,0,none⟩) (n + 1) cx) rfl (by rfl) HR.out.pool (by rfl) (by rfl) (zaE 100 g 0 104 _ _ HR.out.pool (by simp) szST rfl rfl) ?_);intro w7 B7 G7;replace HR := Hd (HR.out.set (b0 := .slice (some ⟨gx,0,none⟩) (n + 1) cx) (b1 := ds) B7 G7)
     clear B7 G7;refine ⟨.after HR.out.box (by kernel_rfl),?_⟩;simp only [pt,pn,sL];refine zab (by kernel_rfl) ?_ _;have c1 := HR.out.pool.cell 1;simp at c1;have tok1 := True.intro;have tok2 := True.intro;go_upto_region 20 with (first
      | (clear tok1
         refine zdS rfl rfl 28 3 (.tmp 81) (.tmp 80) (.tmp 82) rfl rfl base 1 8 iN _ (.int .i64 d) ds [.int .i64 d] (p.D.map (Value.int .i64)) n underlying28 IN.out.1 IN.out.2.1 IN.out.2.2.1 IN.out.2.2.2 rfl (by omega) (by omega) (by rfl) (by rfl) rfl zdD HR.out.ry (by have := HR.out.chg.size; omega) (by unfold maxLen; omega) (by omega) (by rfl) (by rfl) ?_;intro ds2 wd2 gd hgd R2 L2 G2 O2;obtain ⟨gy,cy,hy,_⟩ := (zbr.of_own R2).form (by omega);subst hy;have HR2 := Hd (HR.out.appy2 HFY.out R2 G2 O2)
         clear R2 G2 O2 L2 c1)
      | (clear tok2
         refine zaa rfl 28 (.tmp 85) (.tmp 83) rfl g 1 104 [.slice (some ⟨gx,0,none⟩) (n + 1) cx,ds] [.slice (some ⟨gy,0,none⟩) (n + 1) cy] _ HR2.out.pool (by rfl) (by rfl) rfl szSI (by simp) (by simp [Value.oneCell']) ?_;intro w8 B8 G8 Z8;have HR3 := Hd (HR2.out.set (b0 := .slice (some ⟨gx,0,none⟩) (n + 1) cx) (b1 := .slice (some ⟨gy,0,none⟩) (n + 1) cy) B8 G8)
         clear B8 G8 Z8)
      | fail)
     clear HR HR2;have HR := HR3;clear HR3;have c0 := HR.out.pool.cell 0;simp at c0;go_wp2;go_ret2;exact HR.out.fin HOK.out HNO.out HN.out HD.out ⟨HLIM.out.1,by have := HLIM.out.2; omega⟩ HWF.out HRNG.out HT.out HFB.out hbase
end
section
theorem zec (i : Int)(x : ID)(w : World) : Calls prog 31 #[.int .i64 i,.agg x.cells.toArray] w (TgtP i x w) := by
 obtain ⟨k,op,wd,sz,br,dst,src,off,imm⟩ := x;show Calls prog 31 #[.int .i64 i,.agg #[.int .i8 k,.int .i8 op,.int .i8 wd,.int .i8 sz,.bool br,.int .i8 dst,.int .i8 src,.int .i64 off,.int .i64 imm]] w _
 by_cases h3 : k = 3 ∨ k = 4
 ·cases t0 : decide (i < -1099511627776)
  ·cases t1 : decide (1099511627776 < i)
   ·cases t2 : decide (off < -1099511627776)
    ·cases t3 : decide (1099511627776 < off)
     ·have h1 : inB i (-1099511627776) 1099511627776 = true := by rw [zbm]; simp at t0 t1; omega
      have h2 : inB off (-1099511627776) 1099511627776 = true := by rw [zbm]; simp at t2 t3; omega
      obtain ⟨i0,i1⟩ := zbm.1 h1;obtain ⟨o0,o1⟩ := zbm.1 h2;have hT : zcE i ⟨k,op,wd,sz,br,dst,src,off,imm⟩ = true := by unfold zcE; rw [h1,h2]; rcases h3 with rfl | rfl <;> simp
      have hN : zdE i ⟨k,op,wd,sz,br,dst,src,off,imm⟩ = i + 1 + off := by unfold zdE; rw [hT]; rfl
      have HT := Hd hT
      have HN := Hd hN
      clear hT hN h1 h2
      rcases h3 with rfl | rfl
      all_goals
       go_enter func31,ntmps31;go_wp2;go_ret2;exact ⟨by rw [HN.out,HT.out]; rfl,(Below.refl _ _).alloc (ztn _) _⟩
     ·have h1 : inB off (-1099511627776) 1099511627776 = false := by rw [zdH]; simp at t3; omega
      have hT : zcE i ⟨k,op,wd,sz,br,dst,src,off,imm⟩ = false := by unfold zcE; rw [h1]; simp
      have HT := Hd hT
      clear hT h1
      rcases h3 with rfl | rfl
      all_goals
       go_enter func31,ntmps31;go_wp2;go_ret2;exact ⟨by rw [zfb HT.out,HT.out]; rfl,(Below.refl _ _).alloc (ztn _) _⟩
    ·have h1 : inB off (-1099511627776) 1099511627776 = false := by rw [zdH]; simp at t2; omega
     have hT : zcE i ⟨k,op,wd,sz,br,dst,src,off,imm⟩ = false := by unfold zcE; rw [h1]; simp
     have HT := Hd hT
     clear hT h1
     rcases h3 with rfl | rfl
     all_goals
      go_enter func31,ntmps31;go_wp2;go_ret2;exact ⟨by rw [zfb HT.out,HT.out]; rfl,(Below.refl _ _).alloc (ztn _) _⟩
   ·have h1 : inB i (-1099511627776) 1099511627776 = false := by rw [zdH]; simp at t1; omega
    have hT : zcE i ⟨k,op,wd,sz,br,dst,src,off,imm⟩ = false := by unfold zcE; rw [h1]; simp
    have HT := Hd hT
    clear hT h1
    rcases h3 with rfl | rfl
    all_goals
     go_enter func31,ntmps31;go_wp2;go_ret2;exact ⟨by rw [zfb HT.out,HT.out]; rfl,(Below.refl _ _).alloc (ztn _) _⟩
  ·have h1 : inB i (-1099511627776) 1099511627776 = false := by rw [zdH]; simp at t0; omega
   have hT : zcE i ⟨k,op,wd,sz,br,dst,src,off,imm⟩ = false := by unfold zcE; rw [h1]; simp
   have HT := Hd hT
   clear hT h1
   rcases h3 with rfl | rfl
   all_goals
    go_enter func31,ntmps31;go_wp2;go_ret2;exact ⟨by rw [zfb HT.out,HT.out]; rfl,(Below.refl _ _).alloc (ztn _) _⟩
 ·have hT : zcE i ⟨k,op,wd,sz,br,dst,src,off,imm⟩ = false := by unfold zcE; simp only [zuj]; left; left; simp; omega
  have HT := Hd hT
  have b3 : (k != 3) = true := by rw [bne_iff_ne]; omega
  have b4 : (k != 4) = true := by rw [bne_iff_ne]; omega
  clear hT h3;go_enter func31,ntmps31;go_wp2;go_ret2;exact ⟨by rw [zfb HT.out,HT.out]; rfl,(Below.refl _ _).alloc (ztn _) _⟩
theorem zlX (n : Int)(w : World) : Calls prog 89 #[.int .i64 n] w fun e w' => e = .returned (.int .i64 (zcG n)) ∧ w = w' := by
 cases t0 : decide (n < 0)
 ·cases t1 : decide (16 ≤ n)
  ·have h0 : 0 ≤ n := by simpa using t0
   have h1 : n < 16 := by simpa using t1
   have hN : zcG n = n % 6 := by unfold zcG; rw [zbm.2 ⟨h0,by omega⟩]; rfl
   have HN := Hd hN
   clear hN;go_enter func89,ntmps89;go_wp2;go_ret;exact ⟨zid HN.out.symm,rfl⟩
  ·have hN : zcG n = 0 := by unfold zcG; rw [zdH.2 (by simp at t1; omega)]; rfl
   have HN := Hd hN
   clear hN;go_enter func89,ntmps89;go_wp2;go_ret;exact ⟨zid HN.out.symm,rfl⟩
 ·have hN : zcG n = 0 := by unfold zcG; rw [zdH.2 (by simp at t0; omega)]; rfl
  have HN := Hd hN
  clear hN;go_enter func89,ntmps89;go_wp2;go_ret;exact ⟨zid HN.out.symm,rfl⟩
theorem zkA (c : Int)(A : Option Addr)(n cap : Nat)(l : List ID)(w : World)(hh : zcJ w w.heap.size A n l)(hc : n ≤ cap)(hm : n < 9223372036854775808) :
  Calls prog 21 #[.agg #[.int .i64 c,.slice A n cap]] w (ChkP c l w) := by
 have hl := Hd hh.1
 have HH := Hd hh
 clear hh
 cases t0 : decide (c < 0)
 ·cases t1 : decide (256 < c)
  ·have h1 : inB c 0 256 = true := by rw [zbm]; simp at t0 t1; omega
   by_cases h2 : 1 ≤ n ∧ n ≤ 64
   ·have h2' := Hd (show inB ((l.length : Int) - 1) 0 63 = true by rw [hl.out,zbm]; omega)
    have h1' := Hd h1
    have hn1 : 1 ≤ n := h2.1;have hn2 : n ≤ 64 := h2.2;clear h1 h2;go_enter func21,ntmps21;go_wp2;go_loopw [5] (fun i wr => zrn c l w A n (.slice A n cap) i wr) (fun i _ => n - (intOf i).toNat)
    case atStart => exact ⟨0,by omega,rfl,by omega,HH.out.alloc (ztn _) _,by simp,(Below.refl _ _).alloc (ztn _) _,by simp⟩
    case round =>
     obtain ⟨k,hk,rfl,hok,hat,hc0,hbel,hsz⟩ := hrel;have HB := Hd hbel
     have HOK := Hd hok
     have HAT := Hd hat
     clear hbel hok hat
     by_cases hlt : k < n
     ·obtain ⟨ad,x,rfl,hab,hx,hxw,hcell⟩ := HAT.out.at_ hlt
      have HX := Hd hx
      have HC := Hd hcell
      have HW := Hd hxw
      clear hx hcell hxw;obtain ⟨mb,hmb⟩ : ∃ b,ze8 x = b := ⟨_,rfl⟩;obtain ⟨tb,htb⟩ : ∃ b,zcE k x = b := ⟨_,rfl⟩;obtain ⟨tn,htn⟩ : ∃ b,zdE k x = b := ⟨_,rfl⟩;have HMB := Hd hmb
      have HTB := Hd htb
      have HTN := Hd htn
      clear hmb htb htn;go_wp2_with (first
       | (refine zae rfl 47 (.tmp 33) rfl (ad.add (k * 9)) rfl x.cells _ HC.out underlying47 rfl ziZ ?_)
       | fail)
      refine (zos x _ HW.out).mono ?_;rintro e w2 ⟨rfl,hb⟩;rw [HMB.out];have hc2 : w2.cell? ⟨w.heap.size,1,none⟩ = some (.slice (some ad) n cap) := (hb.cell (p := ⟨w.heap.size,1,none⟩) hsz).trans hc0;have HAT2 := Hd (HAT.out.below (hb.mono (ztu hsz)))
      have HB2 := Hd (HB.out.trans (hb.mono (ztu hsz)))
      have hsz2 : w.heap.size < w2.heap.size := zty hsz hb.size;have HC2 := Hd (fun j u hu => (hb.cell (p := (ad.add (k * 9)).add j) (by rw [zaz,zaz]; omega)).trans (HC.out j u hu) : ∀ j u,x.cells[j]? = some u → w2.cell? ((ad.add (k * 9)).add j) = some u)
      clear hb hc0 HAT HB HC
      cases mb
      ·go_wp2
       go_ret2;have hbad : zdI n k x = false := by unfold zdI; rw [HMB.out]; rfl
       have hp := zjc (c := c) h1'.out h2'.out HX.out (by rw [hl.out]; exact HOK.out) (by rw [hl.out]; exact hbad);rw [HMB.out] at hp;exact ⟨by rw [hp]; rfl,HB2.out⟩
      ·go_wp2_with (first
        | (refine zae rfl 47 (.tmp 43) rfl (ad.add (k * 9)) rfl x.cells _ HC2.out underlying47 rfl ziZ ?_)
        | fail)
       refine (zec k x _).mono ?_;rintro e w3 ⟨rfl,hb⟩;rw [HTB.out,HTN.out];have hc3 : w3.cell? ⟨w.heap.size,1,none⟩ = some (.slice (some ad) n cap) := (hb.cell (p := ⟨w.heap.size,1,none⟩) hsz2).trans hc2;have HAT3 := Hd (HAT2.out.below (hb.mono (ztu hsz2)))
       have HB3 := Hd (HB2.out.trans (hb.mono (ztu hsz2)))
       have hsz3 : w.heap.size < w3.heap.size := zty hsz2 hb.size;clear hb hc2 HAT2 HB2 HC2;have hcs : tb = false ∨ (tb = true ∧ decide (tn < 0) = true) ∨ (tb = true ∧ decide (tn < 0) = false ∧ decide ((n : Int) ≤ tn) = true) ∨ (tb = true ∧ decide (tn < 0) = false ∧ decide ((n : Int) ≤ tn) = false) := by cases tb <;> cases decide (tn < 0) <;> cases decide ((n : Int) ≤ tn) <;> simp
       rcases hcs with rfl | ⟨rfl,q1⟩ | ⟨rfl,q1,q2⟩ | ⟨rfl,q1,q2⟩
       all_goals
        go_wp2
        first
         | (go_ret2
            have hbad : zdI n k x = false := by
             unfold zdI;rw [HMB.out,HTB.out,HTN.out];have : inB tn 0 ((n : Int) - 1) = false := by rw [zdH]; first | (simp at q1 q2; omega) | (simp at q1; omega)
             rw [this]; rfl
            have hp := zjc (c := c) h1'.out h2'.out HX.out (by rw [hl.out]; exact HOK.out) (by rw [hl.out]; exact hbad);rw [HMB.out] at hp;exact ⟨by rw [hp]; rfl,HB3.out⟩)
         | (have hgood : zdI n k x = true := by
              unfold zdI;rw [HMB.out]
              first
               | (rw [HTB.out]; rfl)
               | (rw [HTB.out,HTN.out,show inB tn 0 ((n : Int) - 1) = true by rw [zbm]; simp at q1 q2; omega]; rfl)
            have HGD := Hd hgood
            clear hgood;go_roundw
            case measure => simp [intOf]; omega
            case rel =>
             refine ⟨k + 1,by omega,by go_num,fun j y hj hy => ?_,HAT3.out,hc3,HB3.out,hsz3⟩
             rcases ztH j k with h | h
             ·exact HOK.out j y h hy
             ·obtain rfl : j = k := by omega
              have := HX.out;rw [hy] at this;obtain rfl := Option.some.inj this;exact HGD.out)
     ·obtain rfl : k = n := by omega
      have hk1 : k - 1 < k := by omega
      obtain ⟨ad,x,rfl,hab,hx,hxw,hcell⟩ := HAT.out.at_ hk1;have hlast : zgw l = x.kind := by unfold zgw; rw [hl.out,hx]; rfl
      have hp := znx (c := c) h1'.out h2'.out (fun i y hy => by rw [hl.out]; exact HOK.out i y (by have := (ztt.1 hy).1; have := hl.out; omega) hy);rw [hlast,hl.out] at hp;have HP := Hd hp
      have hkc : wr.cell? (ad.add ((k - 1) * 9)) = some (.int .i8 x.kind) := by
       have := hcell 0 _ rfl
       simpa [za0] using this
      clear hcell hlast hp hx hxw hlt;generalize hki : x.kind = ki at hkc ⊢;rw [hki] at HP;clear hki
      cases h4 : (ki != 4)
      all_goals
       cases h6 : (ki != 6)
       all_goals
        go_wp2;go_ret2;refine ⟨?_,HB.out⟩;rw [HP.out];simp at h4 h6
        first
         | (rw [if_pos ⟨h4,h6⟩]; rfl)
         | (rw [if_neg (by simp [h4,h6])]; rfl)
   ·have hp := zkc (c := c) (l := l) h1 (by rw [hl.out,zdH]; omega)
    have HP := Hd hp
    have hn : n < 1 ∨ 64 < n := by omega
    clear hp h1 h2
    rcases hn with hn | hn
    ·obtain rfl : n = 0 := by omega
     go_enter func21,ntmps21;go_wp2;go_ret2;exact ⟨by rw [HP.out]; rfl,(Below.refl _ _).alloc (ztn _) _⟩
    ·have hd0 : decide ((n : Int) < 1) = false := by simp; omega
     have hd1 : decide ((64 : Int) < (n : Int)) = true := by simp; omega
     go_enter func21,ntmps21;go_wp2;go_ret2;exact ⟨by rw [HP.out]; rfl,(Below.refl _ _).alloc (ztn _) _⟩
  ·have hp := zjb (c := c) (l := l) (by rw [zdH]; simp at t1; omega)
   have HP := Hd hp
   clear hp;go_enter func21,ntmps21;go_wp2;go_ret2;exact ⟨by rw [HP.out]; rfl,(Below.refl _ _).alloc (ztn _) _⟩
 ·have hp := zjb (c := c) (l := l) (by rw [zdH]; simp at t0; omega)
  have HP := Hd hp
  clear hp;go_enter func21,ntmps21;go_wp2;go_ret2;exact ⟨by rw [HP.out]; rfl,(Below.refl _ _).alloc (ztn _) _⟩
end
end Go.Proofs.YtepagfkkjlbipaaGreat
