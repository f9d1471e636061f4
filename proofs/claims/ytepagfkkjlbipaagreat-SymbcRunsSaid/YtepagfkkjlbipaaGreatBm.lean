/-
  blocks.Run: a program's blocks. Conditions: those written in each statement.
-/
import Derived.Test.YtepagfkkjlbipaaGreatKai
set_option linter.unusedVariables false
set_option linter.unusedSimpArgs false
set_option maxHeartbeats 64000000
set_option maxRecDepth 100000
namespace Go.Proofs.YtepagfkkjlbipaaGreat
open Go.RowKit
open Tryz
theorem zqU (c : Int)(A : Option Addr)(n cap : Nat)(l : List ID)(w : World)(hh : zcJ w w.heap.size A n l)(hc : n ≤ cap)(hm : n < 9223372036854775808) :
  Calls prog 41 #[.agg #[.int .i64 c,.slice A n cap]] w (RnP c l w) := by
 have HL := Hd hh.1
 have HE := Hd (EnF.new (c := c) (cap := cap) hh)
 have HUP := Hd (hh.up ((Below.refl w.heap.size w).alloc (ztn _) (.cells #[.int .i64 c,.slice A n cap] 24)) (by simp))
 clear hh;go_enter func41,ntmps41;go_wp2_with fail
 refine (zlJ c A n cap l _ HUP.out hc hm).mono ?_;rintro e w1 ⟨rfl,hb⟩;replace HE := Hd (HE.out.step hb)
 clear hb HUP;obtain ⟨er,her⟩ : ∃ v,(zdj c l).2 = v := ⟨_,rfl⟩;rw [her];have HER := Hd her
 clear her
 by_cases he : er = 0
 ·subst he
  obtain ⟨_,_,hn1,hn64,hok,_,_⟩ := zg1 HER.out;rw [HL.out] at hn1 hn64 hok;have HOK := Hd hok
  have HR := Hd (show ziM c l = zeX l by unfold ziM; rw [HER.out]; rfl)
  clear hok;have c1 := HE.out.box1;go_upto_region 6 with (first
   | (refine zd9 (Value.int .i64) I64 3 rfl 148 rfl ?_
      intro w2 gm G2 M2 L2;have HM2 := Hd M2
      have hgm : w.heap.size + 1 ≤ gm := by have := HE.out.lt; omega
      replace HE := Hd (HE.out.step L2)
      clear M2 L2)
   | (refine zhf rfl (.tmp 27) (.const (.int .i64 0)) (.const (.bool true)) 148 rfl 4 znE underlying148 HM2.out (by unfold maxLen; omega) 0 (by unfold I64; omega) (.bool true) (by rfl) (by rfl) (by rfl) ?_
      intro w3 M3 G3;have HM3 := Hd (M3.congr (g := zhU l 0) (zma l))
      have HE3 := Hd (HE.out.grown G3 (fun g e => by injection e with e; omega))
      have c13 := HE3.out.box1;clear M3 G3 c1))
  go_loopw [32] (fun i wr => ∃ k : Nat,k ≤ n ∧ i = .int .i64 k ∧ EnF c A n cap l w wr ∧ ∃ m,zaR prog 3 (Value.int .i64) I64 wr gm m (zhU l k) ∧ m ≤ 2 * k + 1) (fun i _ => n - (intOf i).toNat)
  case atStart => exact ⟨0,by omega,rfl,HE3.out,_,HM3.out,by omega⟩
  case round =>
   obtain ⟨k,hk,rfl,he,mm,hmap,hmm⟩ := hrel;clear HE3 HM3 HE HM2 c13;have HE := Hd he
   have HM := Hd hmap
   clear he hmap
   by_cases hlt : k < n
   ·obtain ⟨ad,x,rfl,hab,hx,hxw,hcell⟩ := HE.out.ins.at_ hlt
    have HX := Hd hx
    have HW := Hd hxw
    have HC := Hd hcell
    have HOX := Hd (HOK.out k x hx)
    clear hx hxw hcell;have hszw := HE.out.lt;have hml := HM.out.lt;go_upto_region 8 with (first
     | (refine zae rfl 47 (.tmp 35) rfl (ad.add (k * 9)) (by rfl) x.cells _ HC.out underlying47 rfl zhY ?_)
     | (refine zag rfl 47 (.tmp 8) (.tmp 36) rfl _ x.cells (.agg x.cells.toArray) (by rfl) (by rfl) rfl zhY (by rfl) x.one ?_
        intro w4 X4 L4 S4;have HX4 := Hd X4
        have HE4 := Hd (HE.out.step L4)
        have HM4 := Hd (HM.out.below L4 hml)
        clear X4 L4 S4))
    have hk0 : w4.cell? ⟨wr.heap.size,0,none⟩ = some (.int .i8 x.kind) := HX4.out.cell 0;have hki : I64 ((k : Int) + 1) := by unfold I64; omega
    have HKI := Hd hki
    have hgx := HX4.out.lt;clear hki;have HLEAF : ∀ (w5 : World) (m5 : Nat),zaR prog 3 (Value.int .i64) I64 w5 gm m5 (znF l k x) → m5 ≤ 2 * k + 2 → EnF c (some ad) n cap l w w5 → Blk w5 wr.heap.size 47 x.cells.toArray → Hid ((∃ m,zaR prog 3 (Value.int .i64) I64 w5 gm m (znF l k x) ∧ m ≤ 2 * k + 2) ∧ EnF c (some ad) n cap l w w5 ∧ Blk w5 wr.heap.size 47 x.cells.toArray) := fun w5 m5 h1 h2 h3 h4 => Hd ⟨⟨m5,h1,h2⟩,h3,h4⟩
    have HLF := Hd HLEAF
    clear HLEAF;obtain ⟨kd,hkd⟩ : ∃ v,x.kind = v := ⟨_,rfl⟩;rw [hkd] at hk0;have HKD := Hd hkd
    clear hkd
    cases h3 : (kd == 3)
    ·cases h4 : (kd == 4)
     ·cases h6 : (kd == 6)
      ·have HJ := Hd (show zgM x = false by unfold zgM; rw [HKD.out,h3,h4,h6]; rfl)
       go_upto_region 13 with fail
       have HLF5 := Hd (HLF.out w4 mm (HM4.out.congr (zqj HJ.out)) (by omega) HE4.out HX4.out).out
       obtain ⟨w5,rfl⟩ : ∃ v : World,v = w4 := ⟨_,rfl⟩;clear hk0 h3 h4 h6 HLF;obtain ⟨⟨m5,hmap5,hmm5⟩,he5,hx5⟩ := HLF5.out;have HMP5 := Hd hmap5
       have HE5 := Hd he5
       have HX5 := Hd hx5
       have hml5 := hmap5.lt;clear hmap5 he5 hx5 HLF5 HM4 HE4 HX4 HE HM;go_wp2_with (first
        | (refine zae rfl 47 (.tmp 8) rfl ⟨wr.heap.size,0,none⟩ (by rfl) x.cells _ (zak HX5.out) underlying47 rfl zhY ?_)
        | fail)
       refine (zcR k x _).mono ?_;rintro e w6 ⟨rfl,hb⟩;have HE6 := Hd (HE5.out.step hb)
       have HM6 := Hd (HMP5.out.below hb hml5)
       clear hb
       cases ht : zcE k x
       ·have HT := Hd ht
        clear ht;go_wp2;go_roundw
        case measure => simp [intOf]; omega
        case rel => exact ⟨k + 1,by omega,by go_num,HE6.out,m5,HM6.out.congr (zhh HX.out HT.out),by omega⟩
       ·have HT := Hd ht
        obtain ⟨ht0,ht1⟩ := zfX HOX.out ht;have HTI := Hd (show I64 (zdE k x) by unfold I64; omega)
        clear ht;go_wp2_with (first
         | (at_mapUpdate
            refine zbc rfl (.tmp 53) (.tmp 54) (.const (.bool true)) 148 rfl 4 znE underlying148 HM6.out (by unfold maxLen; omega) (zdE k x) HTI.out (.bool true) (by rfl) (by rfl) (by rfl) ?_;intro w7 M7 G7;have HM7 := Hd M7
            have HE7 := Hd (HE6.out.grown G7 (fun g e => by injection e with e; omega))
            clear M7 G7))
        go_roundw
        case measure => simp [intOf]; omega
        case rel => exact ⟨k + 1,by omega,by go_num,HE7.out,m5 + 1,HM7.out.congr (zft HX.out HT.out),by omega⟩
      ·have HJ := Hd (show zgM x = true by unfold zgM; rw [HKD.out,h3,h4,h6]; simp)
       go_upto_region 13 with (first
        | (at_mapUpdate
           refine zbc rfl (.tmp 43) (.tmp 45) (.const (.bool true)) 148 rfl 4 znE underlying148 HM4.out (by unfold maxLen; omega) ((k : Int) + 1) HKI.out (.bool true) (by rfl) (by rfl) (by rfl) ?_;intro w5 M5 G5;have HLF5 := Hd (HLF.out w5 (mm + 1) (M5.congr (zhg HJ.out)) (by omega) (HE4.out.grown G5 (fun g e => by injection e with e; omega)) (HX4.out.grown G5 (fun e => by injection e with e; omega))).out
           clear M5 G5))
       clear hk0 h3 h4 h6 HLF;obtain ⟨⟨m5,hmap5,hmm5⟩,he5,hx5⟩ := HLF5.out;have HMP5 := Hd hmap5
       have HE5 := Hd he5
       have HX5 := Hd hx5
       have hml5 := hmap5.lt;clear hmap5 he5 hx5 HLF5 HM4 HE4 HX4 HE HM;go_wp2_with (first
        | (refine zae rfl 47 (.tmp 8) rfl ⟨wr.heap.size,0,none⟩ (by rfl) x.cells _ (zak HX5.out) underlying47 rfl zhY ?_)
        | fail)
       refine (zcR k x _).mono ?_;rintro e w6 ⟨rfl,hb⟩;have HE6 := Hd (HE5.out.step hb)
       have HM6 := Hd (HMP5.out.below hb hml5)
       clear hb
       cases ht : zcE k x
       ·have HT := Hd ht
        clear ht;go_wp2;go_roundw
        case measure => simp [intOf]; omega
        case rel => exact ⟨k + 1,by omega,by go_num,HE6.out,m5,HM6.out.congr (zhh HX.out HT.out),by omega⟩
       ·have HT := Hd ht
        obtain ⟨ht0,ht1⟩ := zfX HOX.out ht;have HTI := Hd (show I64 (zdE k x) by unfold I64; omega)
        clear ht;go_wp2_with (first
         | (at_mapUpdate
            refine zbc rfl (.tmp 53) (.tmp 54) (.const (.bool true)) 148 rfl 4 znE underlying148 HM6.out (by unfold maxLen; omega) (zdE k x) HTI.out (.bool true) (by rfl) (by rfl) (by rfl) ?_;intro w7 M7 G7;have HM7 := Hd M7
            have HE7 := Hd (HE6.out.grown G7 (fun g e => by injection e with e; omega))
            clear M7 G7))
        go_roundw
        case measure => simp [intOf]; omega
        case rel => exact ⟨k + 1,by omega,by go_num,HE7.out,m5 + 1,HM7.out.congr (zft HX.out HT.out),by omega⟩
     ·have HJ := Hd (show zgM x = true by unfold zgM; rw [HKD.out,h3,h4]; simp)
      go_upto_region 13 with (first
       | (at_mapUpdate
          refine zbc rfl (.tmp 43) (.tmp 45) (.const (.bool true)) 148 rfl 4 znE underlying148 HM4.out (by unfold maxLen; omega) ((k : Int) + 1) HKI.out (.bool true) (by rfl) (by rfl) (by rfl) ?_;intro w5 M5 G5;have HLF5 := Hd (HLF.out w5 (mm + 1) (M5.congr (zhg HJ.out)) (by omega) (HE4.out.grown G5 (fun g e => by injection e with e; omega)) (HX4.out.grown G5 (fun e => by injection e with e; omega))).out
          clear M5 G5))
      clear hk0 h3 h4 HLF;obtain ⟨⟨m5,hmap5,hmm5⟩,he5,hx5⟩ := HLF5.out;have HMP5 := Hd hmap5
      have HE5 := Hd he5
      have HX5 := Hd hx5
      have hml5 := hmap5.lt;clear hmap5 he5 hx5 HLF5 HM4 HE4 HX4 HE HM;go_wp2_with (first
       | (refine zae rfl 47 (.tmp 8) rfl ⟨wr.heap.size,0,none⟩ (by rfl) x.cells _ (zak HX5.out) underlying47 rfl zhY ?_)
       | fail)
      refine (zcR k x _).mono ?_;rintro e w6 ⟨rfl,hb⟩;have HE6 := Hd (HE5.out.step hb)
      have HM6 := Hd (HMP5.out.below hb hml5)
      clear hb
      cases ht : zcE k x
      ·have HT := Hd ht
       clear ht;go_wp2;go_roundw
       case measure => simp [intOf]; omega
       case rel => exact ⟨k + 1,by omega,by go_num,HE6.out,m5,HM6.out.congr (zhh HX.out HT.out),by omega⟩
      ·have HT := Hd ht
       obtain ⟨ht0,ht1⟩ := zfX HOX.out ht;have HTI := Hd (show I64 (zdE k x) by unfold I64; omega)
       clear ht;go_wp2_with (first
        | (at_mapUpdate
           refine zbc rfl (.tmp 53) (.tmp 54) (.const (.bool true)) 148 rfl 4 znE underlying148 HM6.out (by unfold maxLen; omega) (zdE k x) HTI.out (.bool true) (by rfl) (by rfl) (by rfl) ?_;intro w7 M7 G7;have HM7 := Hd M7
           have HE7 := Hd (HE6.out.grown G7 (fun g e => by injection e with e; omega))
           clear M7 G7))
       go_roundw
       case measure => simp [intOf]; omega
       case rel => exact ⟨k + 1,by omega,by go_num,HE7.out,m5 + 1,HM7.out.congr (zft HX.out HT.out),by omega⟩
    ·have HJ := Hd (show zgM x = true by unfold zgM; rw [HKD.out,h3]; simp)
     go_upto_region 13 with (first
      | (at_mapUpdate
         refine zbc rfl (.tmp 43) (.tmp 45) (.const (.bool true)) 148 rfl 4 znE underlying148 HM4.out (by unfold maxLen; omega) ((k : Int) + 1) HKI.out (.bool true) (by rfl) (by rfl) (by rfl) ?_;intro w5 M5 G5;have HLF5 := Hd (HLF.out w5 (mm + 1) (M5.congr (zhg HJ.out)) (by omega) (HE4.out.grown G5 (fun g e => by injection e with e; omega)) (HX4.out.grown G5 (fun e => by injection e with e; omega))).out
         clear M5 G5))
     clear hk0 h3 HLF;obtain ⟨⟨m5,hmap5,hmm5⟩,he5,hx5⟩ := HLF5.out;have HMP5 := Hd hmap5
     have HE5 := Hd he5
     have HX5 := Hd hx5
     have hml5 := hmap5.lt;clear hmap5 he5 hx5 HLF5 HM4 HE4 HX4 HE HM;go_wp2_with (first
      | (refine zae rfl 47 (.tmp 8) rfl ⟨wr.heap.size,0,none⟩ (by rfl) x.cells _ (zak HX5.out) underlying47 rfl zhY ?_)
      | fail)
     refine (zcR k x _).mono ?_;rintro e w6 ⟨rfl,hb⟩;have HE6 := Hd (HE5.out.step hb)
     have HM6 := Hd (HMP5.out.below hb hml5)
     clear hb
     cases ht : zcE k x
     ·have HT := Hd ht
      clear ht;go_wp2;go_roundw
      case measure => simp [intOf]; omega
      case rel => exact ⟨k + 1,by omega,by go_num,HE6.out,m5,HM6.out.congr (zhh HX.out HT.out),by omega⟩
     ·have HT := Hd ht
      obtain ⟨ht0,ht1⟩ := zfX HOX.out ht;have HTI := Hd (show I64 (zdE k x) by unfold I64; omega)
      clear ht;go_wp2_with (first
       | (at_mapUpdate
          refine zbc rfl (.tmp 53) (.tmp 54) (.const (.bool true)) 148 rfl 4 znE underlying148 HM6.out (by unfold maxLen; omega) (zdE k x) HTI.out (.bool true) (by rfl) (by rfl) (by rfl) ?_;intro w7 M7 G7;have HM7 := Hd M7
          have HE7 := Hd (HE6.out.grown G7 (fun g e => by injection e with e; omega))
          clear M7 G7))
      go_roundw
      case measure => simp [intOf]; omega
      case rel => exact ⟨k + 1,by omega,by go_num,HE7.out,m5 + 1,HM7.out.congr (zft HX.out HT.out),by omega⟩
   ·obtain rfl : k = n := by omega
    obtain ⟨iT,hiT,hzT,hsT,hbT⟩ := info_parts infT;have IT := Hd (ztp hiT (ztp hzT (ztp hsT hbT)))
    obtain ⟨iB,hiB,hzB,hsB,hbB⟩ := info_parts zrB;have IB := Hd (ztp hiB (ztp hzB (ztp hsB hbB)))
    have hmap := HM.out;rw [show zhU l k = zhU l l.length by rw [HL.out]] at hmap;replace HM := Hd hmap
    have hgml := hmap.lt;have hlt0 := HE.out.lt;have c1 := HE.out.box1;clear hiT hzT hsT hbT hiB hzB hsB hbB hmap hlt hk;go_wp2_with (first
     | (refine wpList_make_full _ rfl (.tmp 58) (.tmp 58) 28 rfl (w.heap.size + 1) 3 iT _ 1 underlying28 IT.out.1 IT.out.2.1 IT.out.2.2.1 .i64 .i64 (k : Int) (k : Int) k (by rfl) (by rfl) rfl rfl (by rw [IT.out.2.2.2]; omega) (by unfold maxLen; omega) (by omega) ?_
        intro w7 O7 G7;rw [zon (za3 l)] at O7;have HOF := Hd (zbr.of_own O7)
        have HE7 := Hd (HE.out.grown G7 (fun g e => by cases e))
        have HM7 := Hd (HM.out.grown G7 (fun e => by cases e))
        have c17 := HE7.out.box1;clear O7 G7 c1)
     | fail)
    obtain ⟨n,rfl⟩ : ∃ v : Nat,v = k := ⟨_,rfl⟩;obtain ⟨go,hgo⟩ : ∃ v : Nat,wr.heap.size = v := ⟨_,rfl⟩;rw [hgo] at HOF ⊢;have hgo1 : w.heap.size + 1 ≤ go := by omega
    clear hgo;go_loopw [12,63] (fun lv i wq => ∃ k : Nat,k ≤ n ∧ i = .int .i64 k ∧ EnF c A n cap l w wq ∧ (∃ m,zaR prog 3 (Value.int .i64) I64 wq gm m (zhU l l.length)) ∧ zbr wq (w.heap.size + 1) 3 1 (.slice (some ⟨go,0,none⟩) n n) n (ofC (za3 l) n k) ∧ wq.ownsRow (w.heap.size + 1) 44 3 lv (zcS (za3 l) k).length (zhW (zcS (za3 l) k))) (fun _ i _ => n - (intOf i).toNat)
    case atStart => exact ⟨0,by omega,rfl,HE7.out,⟨_,HM7.out⟩,HOF.out,⟨rfl,.inl ⟨rfl,rfl⟩⟩⟩
    case round =>
     obtain ⟨k,hk,rfl,he,⟨m2,hmap⟩,hof,hown⟩ := hrel;clear HE HE7 HM HM7 HOF c17;have HE := Hd he
     have HM := Hd hmap
     have HOF := Hd hof
     have HOW := Hd hown
     have hszr := he.lt;clear he hmap hof hown
     by_cases hlt : k < n
     ·have hki : I64 (k : Int) := by unfold I64; omega
      have HKI := Hd hki
      have hbl : (zcS (za3 l) k).length ≤ k := by
       rcases zt9 k with h | h
       ·subst h; exact ztn _
       ·exact (zcs (zbo l) k h).le
      clear hki
      cases hB : za3 l k
      ·have hpre : zbU (za3 l) k = zcS (za3 l) k := by unfold zbU; rw [hB]; rfl
       have hk0 : 0 < k := by
        rcases zt9 k with h | h
        ·subst h; rw [zbo] at hB; cases hB
        ·exact h
       have hbn := (zcs (zbo l) k hk0).ne;have HLK := Hd (zhV l k)
       rw [hB] at HLK;go_upto_region 24 with (first
        | (at_lookup
           refine zff rfl (.tmp 66) (.tmp 67) 148 rfl 4 znE underlying148 (.bool false) (zpt _) HM.out (k : Int) HKI.out (by rfl) (by rfl) (.bool false) HLK.out ?_))
       obtain ⟨q,hpq⟩ : ∃ q,(zbU (za3 l) k).length = q + 1 := ⟨(zbU (za3 l) k).length - 1,by rw [hpre]; omega⟩;have HOQ := HOW.out;rw [← hpre,hpq] at HOQ;replace HOQ := Hd HOQ
       have HE8 := Hd HE.out
       have HM8 := Hd HM.out
       have HOF8 := Hd HOF.out
       rw [hpre] at hpq;have hql : q + 1 ≤ k := by omega
       rw [← hpre] at hpq;obtain ⟨w8,rfl⟩ : ∃ v : World,v = wr := ⟨_,rfl⟩;clear hB hpre hk0 hbn HLK HOW HE HM HOF hbl;obtain ⟨g,capq,rfl,hqc,hg0,hg1⟩ := (zbr.of_own HOQ.out).form (by omega);have HG0 := Hd hg0
       have cof := (HOF8.out.cell k (by omega)).trans (show (ofC (za3 l) n k)[k]? = some (.int .i64 0) by unfold ofC; rw [ztw,zug hlt]; simp);have fof := HOF8.out.frozen k;have HQT := Hd (show ofT (za3 l) k = q by rw [zpu k (by omega),hpq]; omega)
       clear hg0 hg1;have hq1 : q + 1 ≤ n := by omega
       go_upto_region 25 with fail
       have hst := HOF8.out.stored k (.int .i64 (q : Int));rw [show (ofC (za3 l) n k).set k (.int .i64 (q : Int)) = ofC (za3 l) n (k + 1) by rw [← zmc hlt,HQT.out]] at hst;have HOF9 := Hd hst.1
       have hne : g ≠ go := fun e => (zhj HOF8.out (zbr.of_own HOQ.out) (by decide)) (by rw [e]; rfl)
       have HE9 := Hd (HE8.out.grown hst.2 (fun g e => by injection e with e; omega))
       have HM9 := Hd (HM8.out.grown hst.2 (fun e => zhX (v := .slice (some ⟨go,0,none⟩) n n) HOF8.out HM8.out e.symm))
       have HOQ9 := Hd (HOQ.out.kept hst.2 (.inr (fun e => hne (by injection e))))
       generalize w8.setCell ⟨go,k,none⟩ (.int .i64 (q : Int)) = w9 at HOF9 HE9 HM9 HOQ9 ⊢;clear hst cof fof HOF8 HE8 HM8 HOQ;have cof : w9.cell? ⟨go,k,none⟩ = some (.int .i64 (q : Int)) := (HOF9.out.cell k (by omega)).trans (by unfold ofC; rw [ztw,zug hlt]; simp [HQT.out]);obtain ⟨t0,ht0⟩ : ∃ t0,(zhW (zbU (za3 l) k))[q * 3 + 1]? = some t0 := ⟨(zhW (zbU (za3 l) k))[q * 3 + 1]'(by rw [zd3]; omega),ztq _⟩;have cq : w9.cell? ⟨g,q * 3 + 1,none⟩ = some t0 := ((zbr.of_own HOQ9.out).cell _ (by omega)).trans ht0;have fq := (zbr.of_own HOQ9.out).frozen (q * 3 + 1);clear ht0;go_wp2;have hst := HOQ9.out.stored (q * 3 + 1) (.int .i64 ((k : Int) + 1));have hrs := zfv (q := zbU (za3 l) k) (by omega) ((k : Int) + 1);rw [hpq,Nat.add_sub_cancel,← zcB] at hrs;rw [hrs] at hst;have HPL := Hd (zfY (B := za3 l) k (by omega))
       have HST := Hd hst
       have HQL := Hd hpq
       clear hst hrs cof cq fq hpq;go_roundw
       case measure => simp [intOf]; omega
       case rel =>
        refine ⟨k + 1,by omega,by go_num,HE9.out.grown HST.out.2 (fun r e => by injection e with e; have := HG0.out; omega),⟨_,HM9.out.grown HST.out.2 (fun e => zhX (zbr.of_own HOQ9.out) HM9.out e.symm)⟩,HOF9.out.grown HST.out.2 (.inr (fun e => hne (by injection e with e; exact e.symm))),?_⟩;rw [HPL.out,HQL.out];exact HST.out.1
      ·have hpre : zbU (za3 l) k = zcS (za3 l) k ++ [((k : Int),0)] := by unfold zbU; rw [hB]; rfl
       have HPRE := Hd hpre
       have HLK := Hd (zhV l k)
       rw [hB] at HLK;obtain ⟨q,hq⟩ : ∃ q,(zcS (za3 l) k).length = q := ⟨_,rfl⟩;have hpq : (zbU (za3 l) k).length = q + 1 := by rw [hpre,List.length_append,hq]; rfl
       rw [hq] at HOW hbl;clear hpre hq hB;have hbd := fun (w : World) => zjG (k : Int) w
       go_upto_region 24 with (first
        | (at_lookup
           refine zff rfl (.tmp 66) (.tmp 67) 148 rfl 4 znE underlying148 (.bool false) (zpt _) HM.out (k : Int) HKI.out (by rfl) (by rfl) (.bool true) HLK.out ?_)
        | (refine zcq rfl rfl 38 44 (.tmp 71) (.tmp 69) (.tmp 72) rfl rfl (w.heap.size + 1) 3 40 iB _ (.agg #[.int .i64 (k : Int),.int .i64 0,.slice none 0 0]) u12 [.int .i64 (k : Int),.int .i64 0,.slice none 0 0] _ q underlying38 IB.out.1 IB.out.2.1 IB.out.2.2.1 IB.out.2.2.2 rfl (by omega) (by omega) (by rfl) rfl rfl (zjH _ _) HOW.out (by omega) (by unfold maxLen; omega) (by omega) (by rfl) (by rfl) ?_
           intro v8 w8 g8 G8 O8 B8 P8;rw [← zfu,← HPRE.out] at O8;have HOQ := Hd O8
           have HE8 := Hd (HE.out.grown P8 (fun g e => ((zbr.of_own HOW.out).ge g e).1))
           have HM8 := Hd (HM.out.grown P8 (fun e => zhX (zbr.of_own HOW.out) HM.out e.symm))
           have HOF8 := Hd (HOF.out.grown P8 (.inr (fun e => zhj HOF.out (zbr.of_own HOW.out) (by decide) e.symm)))
           clear O8 B8 P8))
       have hql : q ≤ k := hbl;clear HLK HOW HE HM HOF HPRE hbl hbd;obtain ⟨g,capq,rfl,hqc,hg0,hg1⟩ := (zbr.of_own HOQ.out).form (by omega);have HG0 := Hd hg0
       have cof := (HOF8.out.cell k (by omega)).trans (show (ofC (za3 l) n k)[k]? = some (.int .i64 0) by unfold ofC; rw [ztw,zug hlt]; simp);have fof := HOF8.out.frozen k;have HQT := Hd (show ofT (za3 l) k = q by rw [zpu k (by omega),hpq]; omega)
       clear hg0 hg1;have hq1 : q + 1 ≤ n := by omega
       go_upto_region 25 with fail
       have hst := HOF8.out.stored k (.int .i64 (q : Int));rw [show (ofC (za3 l) n k).set k (.int .i64 (q : Int)) = ofC (za3 l) n (k + 1) by rw [← zmc hlt,HQT.out]] at hst;have HOF9 := Hd hst.1
       have hne : g ≠ go := fun e => (zhj HOF8.out (zbr.of_own HOQ.out) (by decide)) (by rw [e]; rfl)
       have HE9 := Hd (HE8.out.grown hst.2 (fun g e => by injection e with e; omega))
       have HM9 := Hd (HM8.out.grown hst.2 (fun e => zhX (v := .slice (some ⟨go,0,none⟩) n n) HOF8.out HM8.out e.symm))
       have HOQ9 := Hd (HOQ.out.kept hst.2 (.inr (fun e => hne (by injection e))))
       generalize w8.setCell ⟨go,k,none⟩ (.int .i64 (q : Int)) = w9 at HOF9 HE9 HM9 HOQ9 ⊢;clear hst cof fof HOF8 HE8 HM8 HOQ;have cof : w9.cell? ⟨go,k,none⟩ = some (.int .i64 (q : Int)) := (HOF9.out.cell k (by omega)).trans (by unfold ofC; rw [ztw,zug hlt]; simp [HQT.out]);obtain ⟨t0,ht0⟩ : ∃ t0,(zhW (zbU (za3 l) k))[q * 3 + 1]? = some t0 := ⟨(zhW (zbU (za3 l) k))[q * 3 + 1]'(by rw [zd3]; omega),ztq _⟩;have cq : w9.cell? ⟨g,q * 3 + 1,none⟩ = some t0 := ((zbr.of_own HOQ9.out).cell _ (by omega)).trans ht0;have fq := (zbr.of_own HOQ9.out).frozen (q * 3 + 1);clear ht0;go_wp2;have hst := HOQ9.out.stored (q * 3 + 1) (.int .i64 ((k : Int) + 1));have hrs := zfv (q := zbU (za3 l) k) (by omega) ((k : Int) + 1);rw [hpq,Nat.add_sub_cancel,← zcB] at hrs;rw [hrs] at hst;have HPL := Hd (zfY (B := za3 l) k (by omega))
       have HST := Hd hst
       have HQL := Hd hpq
       clear hst hrs cof cq fq hpq;go_roundw
       case measure => simp [intOf]; omega
       case rel =>
        refine ⟨k + 1,by omega,by go_num,HE9.out.grown HST.out.2 (fun r e => by injection e with e; have := HG0.out; omega),⟨_,HM9.out.grown HST.out.2 (fun e => zhX (zbr.of_own HOQ9.out) HM9.out e.symm)⟩,HOF9.out.grown HST.out.2 (.inr (fun e => hne (by injection e with e; exact e.symm))),?_⟩;rw [HPL.out,HQL.out];exact HST.out.1
     ·obtain rfl : k = n := by omega
      have HBI := Hd (zcs (zbo l) k (by omega))
      have hbm := HBI.out.ne;have hbm2 := HBI.out.le;obtain ⟨T,hT⟩ : ∃ v,zcS (za3 l) k = v := ⟨_,rfl⟩;have HTL := Hd (show zcS (za3 l) l.length = T by rw [HL.out,hT])
      rw [hT] at HBI HOW hbm hbm2;obtain ⟨m,hmT⟩ : ∃ v,T.length = v := ⟨_,rfl⟩;rw [hmT] at HOW hbm hbm2;have HMT := Hd hmT
      obtain ⟨g,capL,rfl,hmc,hg0,hg1⟩ := (zbr.of_own HOW.out).form hbm;have HRW := Hd (zbr.of_own HOW.out)
      have HGG := Hd (fun (e : g = go) => zhj HOF.out HRW.out (by decide) (by rw [e]; rfl))
      obtain ⟨n,rfl⟩ : ∃ v : Nat,v = k := ⟨_,rfl⟩;clear hT hmT HOW HM hk hlt;go_wp2_with fail
      go_loopw [92] (fun iv wq => ∃ (b : Nat) (q1 : List (BD × Value)),b ≤ m ∧ iv = .int .i64 b ∧ EnF c A n cap l w wq ∧ zbr wq (w.heap.size + 1) 3 1 (.slice (some ⟨go,0,none⟩) n n) n (ofC (za3 l) n n) ∧ q1.length = b ∧ Hid (q1.map (·.1) = (zeX l).take b) ∧ DnP wq g q1 ∧ zbr wq (w.heap.size + 1) 44 3 (.slice (some ⟨g,0,none⟩) m capL) m ((q1 ++ (T.drop b).map pr0).flatMap bkC)) (fun iv _ => m - (intOf iv).toNat)
      case atStart => exact ⟨0,[],by omega,rfl,HE.out,HOF.out,rfl,by simp [Hd],(fun p hp => by simp at hp),HRW.out⟩
      case round =>
       obtain ⟨b,q1,hbk,rfl,he,hof,hql,HQF,hdn,hrow⟩ := hrel;clear HE HOF HRW;have HE := Hd he
       have HOF := Hd hof
       have HQL := Hd hql
       have HDN := Hd hdn
       have hszr := he.lt
       by_cases hlb : b < m
       ·obtain ⟨⟨f,t⟩,hft⟩ : ∃ p,T[b]? = some p := ⟨T[b]'(by have := HMT.out; omega),ztq _⟩
        have hlt3 := HBI.out.lt b _ hft;dsimp only at hlt3;obtain ⟨i,hi⟩ : ∃ i : Nat,t = (i : Int) + 1 := ⟨(t - 1).toNat,by omega⟩;subst hi;have hin : i < n := by omega
        have hdr : T.drop b = (f,(i : Int) + 1) :: T.drop (b + 1) := by
         obtain ⟨h1,h2⟩ := ztt.1 hft;rw [← h2];exact List.drop_eq_getElem_cons h1
        rw [hdr,ztz] at hrow;obtain ⟨R,hR⟩ : ∃ R,(T.drop (b + 1)).map pr0 = R := ⟨_,rfl⟩;rw [hR] at hrow;have HRR := Hd hR
        rw [show pr0 (f,(i : Int) + 1) = (BD.mk f ((i : Int) + 1) [],.slice none 0 0) from rfl] at hrow;have HRW := Hd hrow
        have c21 : wr.cell? ⟨g,b * 3 + 1,none⟩ = some (.int .i64 ((i : Int) + 1)) := (hrow.cell _ (by omega)).trans (by rw [← hql]; exact zcI 1 _ rfl);have cb1 := he.box1;obtain ⟨ad,x,rfl,hab,hx,hxw,hcell⟩ := he.ins.at_ hin;have HX := Hd hx
        have HC := Hd hcell
        have HOX := Hd (HOK.out i x hx)
        have HBX := Hd (show (zeX l)[b]? = some ⟨f,(i : Int) + 1,zaV (za3 l) b i x⟩ by rw [ziJ (p := (f,(i : Int) + 1)) (by rw [HTL.out]; exact hft),ziK hx])
        clear he hof hql hdn hft hdr hR hrow hx hxw hcell hlt3;go_wp2_with (first
         | (refine zae rfl 47 (.tmp 106) rfl (ad.add (i * 9)) (by rfl) x.cells _ HC.out underlying47 rfl zhY ?_)
         | fail)
        refine (zcR i x _).mono ?_;rintro e w5 ⟨rfl,hb⟩;have hgr := za4 hb none;have HEz := Hd (HE.out.step hb)
        have HOFz := Hd (HOF.out.below hb)
        have HRz := Hd (HRW.out.below hb)
        have HDz := Hd (HDN.out.grown hgr (fun r e => by cases e))
        clear hb hgr c21 cb1 HE HOF HRW HDN HC
        cases ht : zcE i x
        ·have HSz := Hd (⟨rfl,.inl ⟨rfl,rfl⟩⟩ : w5.ownsRow (g + 1) 3 1 (.slice none 0 0) 0 [])
         obtain ⟨nx1,hnx1⟩ : ∃ v : List Int,([] : List Int) = v := ⟨_,rfl⟩;have HNT := Hd (show (if zcE i x then [(ofT (za3 l) (zdE i x).toNat : Int)] else []) = nx1 by rw [ht,← hnx1]; rfl)
         replace HSz := Hd (show w5.ownsRow (g + 1) 3 1 (.slice none 0 0) nx1.length (nx1.map (Value.int .i64)) by rw [← hnx1]; exact HSz.out)
         have HN1 := Hd (show nx1.length ≤ 1 by rw [← hnx1]; simp)
         have HSP := Hd (by simp [Value.ownBlock] : (Value.slice (some ⟨go,0,none⟩) n n).ownBlock ≠ (Value.slice none 0 0).ownBlock)
         have HSD := Hd (fun (p : BD × Value) (hp : p ∈ q1) => (by cases p.2.ownBlock <;> simp [Value.ownBlock] : p.2.ownBlock = none ∨ p.2.ownBlock ≠ (Value.slice none 0 0).ownBlock))
         have c22 : w5.cell? ⟨g,b * 3 + 2,none⟩ = some (.slice none 0 0) := (HRz.out.cell _ (by omega)).trans (by rw [← HQL.out]; exact zcI 2 _ rfl);obtain ⟨wz,rfl⟩ : ∃ v : World,v = w5 := ⟨_,rfl⟩;clear ht hnx1;have HNX0 := Hd (show zaV (za3 l) b i x = nx1 ++ (if x.kind = 4 ∨ x.kind = 6 then [] else [(b : Int) + 1]) by unfold zaV; rw [HNT.out])
         have cb1 := HEz.out.box1;obtain ⟨kd,hkd⟩ : ∃ v,x.kind = v := ⟨_,rfl⟩;have ck : wz.cell? (ad.add (i * 9)) = some (.int .i8 kd) := by
          obtain ⟨ad',x',hae,_,hx',_,hc'⟩ := HEz.out.ins.at_ hin;injection hae with hae
          subst hae;have := HX.out;rw [hx'] at this;obtain rfl := Option.some.inj this;have h0 := hc' 0 _ rfl;rw [← hkd];rw [za0] at h0;exact h0
         rw [hkd] at HNX0;clear hkd
         cases h4 : (kd != 4)
         ·have HNX := Hd (show zaV (za3 l) b i x = nx1 by rw [HNX0.out,if_pos (by simp at h4; omega),ztE])
          go_wp2_with fail
          go_roundw
          case measure => simp [intOf]; omega
          case rel =>
           refine ⟨b + 1,q1 ++ [(BD.mk f ((i : Int) + 1) (zaV (za3 l) b i x),.slice none 0 0)],by omega,by go_num,HEz.out,HOFz.out,by rw [List.length_append,HQL.out]; rfl,?_,?_,?_⟩
           ·rw [List.map_append,HQF.out,ztF,HBX.out]
            rfl
           ·intro p hp
            rcases List.mem_append.1 hp with h | h
            ·exact HDz.out p h
            ·simp at h
             subst h;dsimp only;rw [HNX.out];exact HSz.out
           ·rw [← zb6,HRR.out]
            exact HRz.out
         ·cases h6 : (kd != 6)
          ·have HNX := Hd (show zaV (za3 l) b i x = nx1 by rw [HNX0.out,if_pos (by simp at h6; omega),ztE])
           go_wp2_with fail
           go_roundw
           case measure => simp [intOf]; omega
           case rel =>
            refine ⟨b + 1,q1 ++ [(BD.mk f ((i : Int) + 1) (zaV (za3 l) b i x),.slice none 0 0)],by omega,by go_num,HEz.out,HOFz.out,by rw [List.length_append,HQL.out]; rfl,?_,?_,?_⟩
            ·rw [List.map_append,HQF.out,ztF,HBX.out]
             rfl
            ·intro p hp
             rcases List.mem_append.1 hp with h | h
             ·exact HDz.out p h
             ·simp at h
              subst h;dsimp only;rw [HNX.out];exact HSz.out
            ·rw [← zb6,HRR.out]
             exact HRz.out
          ·have HNX := Hd (show zaV (za3 l) b i x = nx1 ++ [(b : Int) + 1] by rw [HNX0.out,if_neg (by simp at h4 h6; omega)])
           have hszz := HEz.out.lt;have hgz := HRz.out.ge g rfl;have hgz2 : g < wz.heap.size := hgz.2;go_wp2_with (first
            | (refine zcq rfl rfl 28 3 (.tmp 147) (.tmp 145) (.tmp 148) rfl rfl (g + 1) 1 8 iT _ (.int .i64 ((b : Int) + 1)) (.slice none 0 0) [.int .i64 ((b : Int) + 1)] _ nx1.length underlying28 IT.out.1 IT.out.2.1 IT.out.2.2.1 IT.out.2.2.2 rfl (by omega) (by omega) (by rfl) rfl rfl zdD HSz.out (by omega) (by have := HN1.out; unfold maxLen; omega) (by have := HN1.out; omega) (by rfl) (by rfl) ?_
               intro v8 w8 g8 G8 O8 B8 P8;have hP8 : ∀ r,(Value.slice none 0 0).ownBlock = some r → g + 1 ≤ r := fun r e => ((zbr.of_own HSz.out).ge r e).1
               obtain ⟨g9,cap9,rfl,_,hg9,_⟩ := (zbr.of_own O8).form (by omega);have HO8 := Hd O8
               have HE8 := Hd (HEz.out.grown P8 (fun r e => by have := hP8 r e; omega))
               have HR8 := Hd (HRz.out.grown P8 (.inr (fun e => by have := hP8 g e.symm; omega)))
               have HOF8 := Hd (HOFz.out.grown P8 (.inr (fun e => HSP.out e)))
               have HDN8 := Hd (fun p hp => ((HDz.out p hp).kept P8 (HSD.out p hp) : w8.ownsRow (g + 1) 3 1 p.2 p.1.next.length (p.1.next.map (Value.int .i64))))
               have c28 : w8.cell? ⟨g,b * 3 + 2,none⟩ = some (.slice none 0 0) := (HR8.out.cell _ (by omega)).trans (by rw [← HQL.out]; exact zcI 2 _ rfl);have f28 := HR8.out.frozen (b * 3 + 2);have hg9' : g < g9 := by omega
               clear O8 B8 P8 G8))
           have hst := HR8.out.stored (b * 3 + 2) (.slice (some ⟨g9,0,none⟩) (nx1.length + 1) cap9);rw [show ((q1 ++ (BD.mk f ((i : Int) + 1) [],.slice none 0 0) :: R).flatMap bkC).set (b * 3 + 2) (.slice (some ⟨g9,0,none⟩) (nx1.length + 1) cap9) = (q1 ++ (BD.mk f ((i : Int) + 1) [],.slice (some ⟨g9,0,none⟩) (nx1.length + 1) cap9) :: R).flatMap bkC by rw [← HQL.out]; exact zgI] at hst;have HST := Hd hst
           clear hst c28 f28;go_roundw
           case measure => simp [intOf]; omega
           case rel =>
            refine ⟨b + 1,q1 ++ [(BD.mk f ((i : Int) + 1) (zaV (za3 l) b i x),.slice (some ⟨g9,0,none⟩) (nx1.length + 1) cap9)],by omega,by go_num,HE8.out.grown HST.out.2 (fun r e => by injection e with e; omega),HOF8.out.grown HST.out.2 (.inr (fun e => HGG.out (by have e' : some go = some g := e; injection e' with e'; exact e'.symm))),by rw [List.length_append,HQL.out]; rfl,?_,?_,?_⟩
            ·rw [List.map_append,HQF.out,ztF,HBX.out]
             rfl
            ·intro p hp
             rcases List.mem_append.1 hp with h | h
             ·exact (HDN8.out p h).kept HST.out.2 (zeY (HDN8.out p h) (ztI g))
             ·simp at h
              subst h;dsimp only;rw [HNX.out];exact (by rw [List.length_append,List.map_append]; exact HO8.out.kept HST.out.2 (.inr (fun e => by have e' : some g9 = some g := e; injection e' with e'; omega)))
            ·rw [← zb6,HRR.out]
             exact HST.out.1
        ·obtain ⟨ht0,ht1⟩ := zfX HOX.out ht
         obtain ⟨tt,htt⟩ := Int.eq_ofNat_of_zero_le ht0;have htn : tt < n := by omega
         have HNT0 := Hd (show (if zcE i x then [(ofT (za3 l) (zdE i x).toNat : Int)] else []) = [(ofT (za3 l) tt : Int)] by rw [ht,htt,if_pos rfl,ztx])
         rw [htt];have HTT := Hd htt
         have cO := (HOFz.out.cell tt (by omega)).trans (zrA htn);have c22 : w5.cell? ⟨g,b * 3 + 2,none⟩ = some (.slice none 0 0) := (HRz.out.cell _ (by omega)).trans (by rw [← HQL.out]; exact zcI 2 _ rfl);have f22 := HRz.out.frozen (b * 3 + 2);have hg5 := (HRz.out.ge g rfl).2;obtain ⟨ov,hov⟩ : ∃ v : Int,(ofT (za3 l) tt : Int) = v := ⟨_,rfl⟩;rw [hov] at cO HNT0;clear ht ht0 ht1 htt hov;go_upto_region 33 with fail
         go_region_law (first
          | (refine zgg _ rfl (.tmp 118) (.tmp 123) 28 rfl (g + 1) 3 iT _ 1 8 underlying28 IT.out.1 IT.out.2.1 IT.out.2.2.1 IT.out.2.2.2 rfl (by omega) (.slice none 0 0) 0 [] (by rfl) ⟨rfl,.inl ⟨rfl,rfl⟩⟩ _ _ 1 1 [.int .i64 ov] (by rfl) (by first | exact zgh _ _ _ _ rfl | exact (zgh _ _ _ _ rfl).drew) zdD (by unfold maxLen; omega) (by omega) (by first | omega | (simp; omega)) ?_
             intro v7 w7 O7 G7 Q7;obtain ⟨g7,cap7,rfl,_,hg7,_⟩ := (zbr.of_own O7).form (by omega);have hb7 : Below w5.heap.size w5 w7 := by
              first
               | exact (((Below.refl w5.heap.size w5).alloc (ztn _) _).drew).grown G7 (by simp) (fun r e => by simp [Value.ownBlock] at e)
               | exact (((Below.refl w5.heap.size w5).drew).alloc (by simp) _).grown G7 (by simp) (fun r e => by simp [Value.ownBlock] at e)
               | exact ((Below.refl w5.heap.size w5).alloc (ztn _) _).grown G7 (by simp) (fun r e => by simp [Value.ownBlock] at e)
             have hg7' : w5.heap.size ≤ g7 := by
              rcases Q7 with h | h
              ·simp [Value.ownBlock] at h
              ·simp [Value.ownBlock] at h; omega
             have HO7 := Hd O7
             have HB7 := Hd hb7
             have c27 : w7.cell? ⟨g,b * 3 + 2,none⟩ = some (.slice none 0 0) := (hb7.cell (p := ⟨g,b * 3 + 2,none⟩) hg5).trans c22;have f27 : w7.frozen? ⟨g,b * 3 + 2,none⟩ = false := (hb7.frozen (p := ⟨g,b * 3 + 2,none⟩) hg5).trans f22;clear O7 G7 Q7 hb7))
         all_goals
          have hst := (HRz.out.below HB7.out).stored (b * 3 + 2) (.slice (some ⟨g7,0,none⟩) 1 cap7);rw [show ((q1 ++ (BD.mk f ((i : Int) + 1) [],.slice none 0 0) :: R).flatMap bkC).set (b * 3 + 2) (.slice (some ⟨g7,0,none⟩) 1 cap7) = (q1 ++ (BD.mk f ((i : Int) + 1) [],.slice (some ⟨g7,0,none⟩) 1 cap7) :: R).flatMap bkC by rw [← HQL.out]; exact zgI] at hst;have HST := Hd hst
          clear hst;have HEy := Hd ((HEz.out.step HB7.out).grown HST.out.2 (fun r e => by injection e with e; omega))
          have HOFy := Hd ((HOFz.out.below HB7.out).grown HST.out.2 (.inr (fun e => HGG.out (by have e' : some go = some g := e; injection e' with e'; exact e'.symm))))
          have HDy := Hd (fun p hp => (((HDz.out p hp).kept (za4 HB7.out none) (by cases p.2.ownBlock <;> simp)).kept HST.out.2 (zeY (HDz.out p hp) (ztI g)) : (w7.setCell ⟨g,b * 3 + 2,none⟩ (.slice (some ⟨g7,0,none⟩) 1 cap7)).ownsRow (g + 1) 3 1 p.2 p.1.next.length (p.1.next.map (Value.int .i64))))
          have HSy := Hd (HO7.out.kept HST.out.2 (.inr (fun e => by have e' : some g7 = some g := e; injection e' with e'; omega)))
          have HRy := Hd HST.out.1
          have hgo5 : go < w5.heap.size := (HOFz.out.ge go rfl).2;have HSP := Hd (fun e => by have e' : some go = some g7 := e; injection e' with e'; omega : (Value.slice (some ⟨go,0,none⟩) n n).ownBlock ≠ (Value.slice (some ⟨g7,0,none⟩) 1 cap7).ownBlock)
          have HSD := Hd (fun (p : BD × Value) (hp : p ∈ q1) => (.inr (fun e => by
           have e' : p.2.ownBlock = some g7 := e;have := (zbr.of_own (HDz.out p hp)).ge g7 e';omega) : p.2.ownBlock = none ∨ p.2.ownBlock ≠ (Value.slice (some ⟨g7,0,none⟩) 1 cap7).ownBlock))
          obtain ⟨nx1,hnx1⟩ : ∃ v : List Int,[ov] = v := ⟨_,rfl⟩;have HNT := Hd (HNT0.out.trans hnx1)
          have HN1 := Hd (show nx1.length ≤ 1 by rw [← hnx1]; simp)
          have HSz := Hd (show (w7.setCell ⟨g,b * 3 + 2,none⟩ (.slice (some ⟨g7,0,none⟩) 1 cap7)).ownsRow (g + 1) 3 1 (.slice (some ⟨g7,0,none⟩) 1 cap7) nx1.length (nx1.map (Value.int .i64)) by rw [← hnx1]; exact HSy.out)
          clear HRz HEz HOFz HDz HSy HST cO c22 f22 c27 f27 hnx1 HO7 HB7 HNT0;generalize w7.setCell ⟨g,b * 3 + 2,none⟩ (.slice (some ⟨g7,0,none⟩) 1 cap7) = wz at HEy HOFy HDy HRy HSz ⊢;have HEz := Hd HEy.out
          have HOFz := Hd HOFy.out
          have HDz := Hd HDy.out
          have HRz := Hd HRy.out
          have c22 : wz.cell? ⟨g,b * 3 + 2,none⟩ = some (.slice (some ⟨g7,0,none⟩) 1 cap7) := (HRz.out.cell _ (by omega)).trans (by rw [← HQL.out]; exact zcI 2 _ rfl);clear HEy HOFy HDy HRy;have HNX0 := Hd (show zaV (za3 l) b i x = nx1 ++ (if x.kind = 4 ∨ x.kind = 6 then [] else [(b : Int) + 1]) by unfold zaV; rw [HNT.out])
          have cb1 := HEz.out.box1;obtain ⟨kd,hkd⟩ : ∃ v,x.kind = v := ⟨_,rfl⟩;have ck : wz.cell? (ad.add (i * 9)) = some (.int .i8 kd) := by
           obtain ⟨ad',x',hae,_,hx',_,hc'⟩ := HEz.out.ins.at_ hin;injection hae with hae
           subst hae;have := HX.out;rw [hx'] at this;obtain rfl := Option.some.inj this;have h0 := hc' 0 _ rfl;rw [← hkd];rw [za0] at h0;exact h0
          rw [hkd] at HNX0;clear hkd
          cases h4 : (kd != 4)
          ·have HNX := Hd (show zaV (za3 l) b i x = nx1 by rw [HNX0.out,if_pos (by simp at h4; omega),ztE])
           go_wp2_with fail
           go_roundw
           case measure => simp [intOf]; omega
           case rel =>
            refine ⟨b + 1,q1 ++ [(BD.mk f ((i : Int) + 1) (zaV (za3 l) b i x),.slice (some ⟨g7,0,none⟩) 1 cap7)],by omega,by go_num,HEz.out,HOFz.out,by rw [List.length_append,HQL.out]; rfl,?_,?_,?_⟩
            ·rw [List.map_append,HQF.out,ztF,HBX.out]
             rfl
            ·intro p hp
             rcases List.mem_append.1 hp with h | h
             ·exact HDz.out p h
             ·simp at h
              subst h;dsimp only;rw [HNX.out];exact HSz.out
            ·rw [← zb6,HRR.out]
             exact HRz.out
          ·cases h6 : (kd != 6)
           ·have HNX := Hd (show zaV (za3 l) b i x = nx1 by rw [HNX0.out,if_pos (by simp at h6; omega),ztE])
            go_wp2_with fail
            go_roundw
            case measure => simp [intOf]; omega
            case rel =>
             refine ⟨b + 1,q1 ++ [(BD.mk f ((i : Int) + 1) (zaV (za3 l) b i x),.slice (some ⟨g7,0,none⟩) 1 cap7)],by omega,by go_num,HEz.out,HOFz.out,by rw [List.length_append,HQL.out]; rfl,?_,?_,?_⟩
             ·rw [List.map_append,HQF.out,ztF,HBX.out]
              rfl
             ·intro p hp
              rcases List.mem_append.1 hp with h | h
              ·exact HDz.out p h
              ·simp at h
               subst h;dsimp only;rw [HNX.out];exact HSz.out
             ·rw [← zb6,HRR.out]
              exact HRz.out
           ·have HNX := Hd (show zaV (za3 l) b i x = nx1 ++ [(b : Int) + 1] by rw [HNX0.out,if_neg (by simp at h4 h6; omega)])
            have hszz := HEz.out.lt;have hgz := HRz.out.ge g rfl;have hgz2 : g < wz.heap.size := hgz.2;go_wp2_with (first
             | (refine zcq rfl rfl 28 3 (.tmp 147) (.tmp 145) (.tmp 148) rfl rfl (g + 1) 1 8 iT _ (.int .i64 ((b : Int) + 1)) (.slice (some ⟨g7,0,none⟩) 1 cap7) [.int .i64 ((b : Int) + 1)] _ nx1.length underlying28 IT.out.1 IT.out.2.1 IT.out.2.2.1 IT.out.2.2.2 rfl (by omega) (by omega) (by rfl) rfl rfl zdD HSz.out (by omega) (by have := HN1.out; unfold maxLen; omega) (by have := HN1.out; omega) (by rfl) (by rfl) ?_
                intro v8 w8 g8 G8 O8 B8 P8;have hP8 : ∀ r,(Value.slice (some ⟨g7,0,none⟩) 1 cap7).ownBlock = some r → g + 1 ≤ r := fun r e => ((zbr.of_own HSz.out).ge r e).1
                obtain ⟨g9,cap9,rfl,_,hg9,_⟩ := (zbr.of_own O8).form (by omega);have HO8 := Hd O8
                have HE8 := Hd (HEz.out.grown P8 (fun r e => by have := hP8 r e; omega))
                have HR8 := Hd (HRz.out.grown P8 (.inr (fun e => by have := hP8 g e.symm; omega)))
                have HOF8 := Hd (HOFz.out.grown P8 (.inr (fun e => HSP.out e)))
                have HDN8 := Hd (fun p hp => ((HDz.out p hp).kept P8 (HSD.out p hp) : w8.ownsRow (g + 1) 3 1 p.2 p.1.next.length (p.1.next.map (Value.int .i64))))
                have c28 : w8.cell? ⟨g,b * 3 + 2,none⟩ = some (.slice (some ⟨g7,0,none⟩) 1 cap7) := (HR8.out.cell _ (by omega)).trans (by rw [← HQL.out]; exact zcI 2 _ rfl);have f28 := HR8.out.frozen (b * 3 + 2);have hg9' : g < g9 := by omega
                clear O8 B8 P8 G8))
            have hst := HR8.out.stored (b * 3 + 2) (.slice (some ⟨g9,0,none⟩) (nx1.length + 1) cap9);rw [show ((q1 ++ (BD.mk f ((i : Int) + 1) [],.slice (some ⟨g7,0,none⟩) 1 cap7) :: R).flatMap bkC).set (b * 3 + 2) (.slice (some ⟨g9,0,none⟩) (nx1.length + 1) cap9) = (q1 ++ (BD.mk f ((i : Int) + 1) [],.slice (some ⟨g9,0,none⟩) (nx1.length + 1) cap9) :: R).flatMap bkC by rw [← HQL.out]; exact zgI] at hst;have HST := Hd hst
            clear hst c28 f28;go_roundw
            case measure => simp [intOf]; omega
            case rel =>
             refine ⟨b + 1,q1 ++ [(BD.mk f ((i : Int) + 1) (zaV (za3 l) b i x),.slice (some ⟨g9,0,none⟩) (nx1.length + 1) cap9)],by omega,by go_num,HE8.out.grown HST.out.2 (fun r e => by injection e with e; omega),HOF8.out.grown HST.out.2 (.inr (fun e => HGG.out (by have e' : some go = some g := e; injection e' with e'; exact e'.symm))),by rw [List.length_append,HQL.out]; rfl,?_,?_,?_⟩
             ·rw [List.map_append,HQF.out,ztF,HBX.out]
              rfl
             ·intro p hp
              rcases List.mem_append.1 hp with h | h
              ·exact (HDN8.out p h).kept HST.out.2 (zeY (HDN8.out p h) (ztI g))
              ·simp at h
               subst h;dsimp only;rw [HNX.out];exact (by rw [List.length_append,List.map_append]; exact HO8.out.kept HST.out.2 (.inr (fun e => by have e' : some g9 = some g := e; injection e' with e'; omega)))
             ·rw [← zb6,HRR.out]
              exact HST.out.1
       ·obtain rfl : b = m := by omega
        have hT : T.drop b = [] := ztV (by rw [HMT.out]; exact ztn _);rw [hT,ztA,ztE] at hrow;have hLB : (zeX l).length = b := by rw [zhi,HTL.out,HMT.out]
        have hqf := HQF.out;rw [ztN (by rw [hLB]; exact ztn _)] at hqf;have HOUT := Hd (hdn.at_ hqf hql hrow (ziL (by rw [HL.out]; omega) (by rw [HL.out]; exact hn64) (by rw [HL.out]; exact HOK.out)) (lo := w.heap.size) (by omega) (by omega))
        have HLB := Hd hLB
        clear he hof hql hdn hrow hT hLB hqf;go_wp2;go_ret2;unfold RnP;rw [HR.out,HER.out,HLB.out];exact ⟨some ⟨g,0,none⟩,capL,rfl,hmc,HOUT.out,HE.out.below⟩
 ·have be : (er != 0) = true := by simpa using he
  have HNE := Hd he
  clear he;go_wp2;go_ret2;exact zpv HER.out HNE.out HE.out.below
end Go.Proofs.YtepagfkkjlbipaaGreat
