/-
  Parts of the proof of SymbcRuns. Conditions: those written in each statement.
-/
import Derived.Test.YtepagfkkjlbipaaGreatKbc
set_option linter.unusedVariables false
set_option linter.unusedSimpArgs false
set_option maxHeartbeats 64000000
set_option maxRecDepth 100000
namespace Go.Proofs.YtepagfkkjlbipaaGreat
open Go.RowKit
open Tryz
section
section
variable {base g : Nat}{F : Nat → Prop}{p : PS}{w : World}
theorem zsE {regs : List Int}{k : Nat}{r : Int}(hl : regs.length = 11)(h : regs[k]? = some r)(W : World) : (Instr.index 57 (.agg (rgC regs).toArray) (.int .i64 (k : Int))).run prog W = .ok (.int .i64 r) W :=
 zeq W 57 3 11 _ .i64 k _ _ underlying57 underlying3 rfl (by kernel_rfl) (by rw [← hl]; exact (ztt.1 h).1) (by rw [ztK]; unfold rgC; rw [ztw,h]; rfl)
theorem zp6 (b : Nat){i : Int}{d : Nat}(hi : i = (d : Int))(hd : d < 7)(w : World) : (Instr.indexAt 116 (.pointer (some ⟨b,0,none⟩)) (.int .i8 i)).run prog w = .ok (.pointer (some ⟨b,d,none⟩)) w := by
 subst hi;go_simp;intro h;omega
theorem zlD {ad : Addr}{n cap i : Nat}(h : i < n ∧ n ≤ 64)(w : World) : (Instr.indexAt 22 (.slice (some ad) n cap) (.int .i64 (i : Int))).run prog w = .ok (.pointer (some (ad.add (i * 9)))) w := by
 have h0 := h.1;go_simp
theorem zeP {a b : List Value}(h : a.length = b.length) : zaM a 0 b = b := by
 unfold zaM;rw [zt6,List.nil_append,ztO,ztV (by omega),ztE]
theorem zbR {w' : World}{k : Nat}{a cs : List Value}(hb : Blk w' k 65 (zaM a 0 cs).toArray)(ha : a.length = 16)(hc : cs.length = 16) : (loadVar 65 ⟨k,0,none⟩).run prog w' = .ok (.agg cs.toArray) w' := by
 rw [zeP (by omega)] at hb;exact zaC (P := prog) w' ⟨k,0,none⟩ 65 cs _ (zak hb) underlying65 rfl (by rw [hc]; exact zeE)
theorem zjn (h : zam w base F g p)(hbase : base ≤ w.heap.size)(c : Int)(A : Option Addr)(n cap : Nat)(l : List ID)(hh : ze9 w F A n l)(hc : n ≤ cap)(hm : n < 9223372036854775808)(block : Int)(hbk : I64 block)(regs : List Int)(hl : regs.length = 11)(hr : ∀ r ∈ regs,I64 r) :
  Calls prog 18 #[.pointer (some ⟨g,0,none⟩),.agg #[.int .i64 c,.slice A n cap],.int .i64 block,.agg (rgC regs).toArray] w (RunP base g F w (zgn p c l block regs)) := by
 have zs := zgY;obtain ⟨w1,hw1⟩ : ∃ v,((w.alloc (.cells #[.int .i64 c,.slice A n cap] 24)).alloc (.cells (rgC regs).toArray 57)).alloc (.cells zaq.toArray 65) = v := ⟨_,rfl⟩;have hb0 : Below w.heap.size w w1 := by rw [← hw1]; exact (((Below.refl _ w).alloc (ztn _) _).alloc (by simp) _).alloc (by simp; omega) _
 have hs1 : w1.heap.size = w.heap.size + 3 := by rw [← hw1]; simp
 have HP := Hd (PG.of_below h hb0)
 have HB5 := Hd (show Blk w1 w.heap.size 24 #[.int .i64 c,.slice A n cap] by rw [← hw1]; exact ((Blk.new w 24 #[.int .i64 c,.slice A n cap]).alloc _).alloc _)
 have HB7 := Hd (show Blk w1 (w.heap.size + 1) 57 (rgC regs).toArray by
  rw [← hw1];have := (Blk.new (w.alloc (.cells #[.int .i64 c,.slice A n cap] 24)) 57 (rgC regs).toArray).alloc (.cells zaq.toArray 65)
  simpa using this)
 have HB8 := Hd (show Blk w1 (w.heap.size + 2) 65 zaq.toArray by
  rw [← hw1];have := Blk.new ((w.alloc (.cells #[.int .i64 c,.slice A n cap] 24)).alloc (.cells (rgC regs).toArray 57)) 65 zaq.toArray
  simpa using this)
 have HNF := Hd (fun b (hb : w.heap.size ≤ b) q => by have := (h.fb b q).2; omega : ∀ b,w.heap.size ≤ b → ¬ F b)
 have HI := Hd (hh.chg (G := fun k => F k ∨ w.heap.size ≤ k) (Chg.of_below hb0) (fun k q => .inr q) (fun k q => q))
 have HBS := Hd hbase
 have HS1 := Hd hs1
 have HL := Hd (ztp hl hr)
 have HM := Hd (ztp hc hm)
 have HBK := Hd hbk
 have c50 : w1.cell? ⟨w.heap.size,0,none⟩ = some (.int .i64 c) := HB5.out.cell 0;have c51 : w1.cell? ⟨w.heap.size,1,none⟩ = some (.slice A n cap) := HB5.out.cell 1;obtain ⟨b5,hb5⟩ : ∃ k,w.heap.size = k := ⟨_,rfl⟩;have HB5e := Hd hb5
 rw [hb5] at HB5 HB7 HNF HS1 HI c50 c51;replace HB8 := Hd (show Blk w1 (b5 + 1 + 1) 65 zaq.toArray by rw [← hb5]; exact HB8.out)
 clear h hb0 hbase hh hc hm hl hr hbk hs1;go_enter func18,ntmps18;go_wp2_with fail
 refine (zqU c A n cap l _ HI.out.ins HM.out.1 HM.out.2).mono ?_;rintro e w2 ⟨A2,cap2,rfl,hcap2,hbks,hb2⟩;replace HP := Hd (HP.out.step hb2)
 have HL5 := HB5.out.lt;have HL7 := HB7.out.lt;have HL8 := HB8.out.lt;replace HB5 := Hd (HB5.out.below hb2 HL5)
 replace HB7 := Hd (HB7.out.below hb2 HL7)
 replace HB8 := Hd (HB8.out.below hb2 HL8)
 replace HI := Hd (HI.out.step hb2)
 have HBKS := Hd hbks
 have HBE := Hd hb2.size
 clear hbks hb2 c50 c51 hb5 hw1 HL5 HL7 HL8;obtain ⟨er,her⟩ : ∃ v,(zdj c l).2 = v := ⟨_,rfl⟩;obtain ⟨nb,hnb⟩ : ∃ v,(ziM c l).length = v := ⟨_,rfl⟩;rw [her,hnb];rw [hnb] at hcap2 HBKS;have HER := Hd her
 have HNB := Hd hnb
 clear her hnb
 cases he : (er != 0);rotate_left
 ·have HV := Hd (show zgn p c l block regs = ⟨p,zan,[],zaZ,er⟩ by
   rw [← HER.out];exact zi9 (by rw [HER.out]; simpa using he))
  go_wp2_with (first
   | (refine zae rfl 65 (.tmp 8) rfl ⟨b5 + 1 + 1,0,none⟩ (by rfl) zaq _ (zak HB8.out) underlying65 rfl zeE ?_)
   | (refine zaa rfl 65 (.tmp 8) (.tmp 29) rfl (b5 + 1 + 1) 0 65 zaq zaq (.agg zaq.toArray) HB8.out (by rfl) (by rfl) rfl zeE (by rw [zbC]; decide) zbQ ?_
      intro wq hBq hgq hsq;have HBQ := Hd hBq
      have HPQ := Hd (HP.out.own (b := b5 + 1 + 1) (HNF.out _ (by omega)) (by have := HB5e.out; omega) (Chg.of_grown hgq (fun k e => .inl (by injection e with e; exact e.symm))))
      clear hBq hgq hsq)
   | fail)
  have hrl := zbR HBQ.out rfl rfl;refine bodyPost_ret (v := .tuple #[.agg zaq.toArray,.int .i64 er]) ?_ rfl ⟨.slice none 0 0,_,by rw [HV.out]; rfl,by rw [HV.out]; exact HPQ.out,by rw [HV.out]; exact zbt.nil,rfl⟩;simp [results,results18,Act.put,asAddr,Result.andThen,hrl]
 ·have he0 : er = 0 := by simpa using he
  subst he0;have HR := Hd (show ziM c l = zeX l by unfold ziM; rw [if_pos HER.out])
  rw [HR.out] at HBKS HNB;clear HR he;have h0b := HBK.out.1;have h1b := HBK.out.2;have hnb64 : nb ≤ cap2 := hcap2;obtain ⟨ok0,hok0⟩ : ∃ b,(decide (0 ≤ block) && decide (block < (nb : Int))) = b := ⟨_,rfl⟩;have HOK0 := Hd hok0
  clear hok0;go_upto_region 6 with fail
  go_cut [11] from 31 to 38 (fun sv wc => sv = .bool ok0 ∧ wc = w2)
  case first =>
   have h0 := HOK0.out;clear HOK0
   cases b0 : decide (0 ≤ block)
   ·rw [b0] at h0
    go_wp2;go_meet
    case rel => exact ⟨by rw [← h0]; rfl,rfl⟩
   ·cases b1 : decide (block < (nb : Int))
    ·rw [b0,b1] at h0
     go_wp2;go_meet
     case rel => exact ⟨by rw [← h0]; rfl,rfl⟩
    ·rw [b0,b1] at h0
     go_wp2;go_meet
     case rel => exact ⟨by rw [← h0]; rfl,rfl⟩
  case rest =>
   obtain ⟨rfl,rfl⟩ := hcut;have HLR := Hd (show (rgC regs).length = 11 by unfold rgC; rw [List.length_map]; exact HL.out.1)
   go_wp2_with (first
    | (refine zae rfl 57 (.tmp 7) rfl ⟨b5 + 1,0,none⟩ (by rfl) (rgC regs) _ (zak HB7.out) underlying57 rfl (by rw [HLR.out]; exact zee) ?_)
    | fail)
   go_loopw [11,40] (fun v i wr => ∃ k : Nat,k ≤ 11 ∧ i = .int .i64 k ∧ v = .bool (okK p regs ok0 k) ∧ Below wc.heap.size wc wr) (fun _ i _ => 11 - (intOf i).toNat)
   case atStart => exact ⟨0,by omega,rfl,by unfold okK; simp,Below.refl _ _⟩
   case round =>
    obtain ⟨k,hk,rfl,rfl,hb⟩ := hrel;have HB := Hd hb
    clear hb
    by_cases hlt : k < 11
    ·have hrk : regs[k]? = some (regs[k]'(by rw [HL.out.1]; exact hlt)) := ztq _
     obtain ⟨r,hrr⟩ : ∃ r,regs[k]'(by rw [HL.out.1]; exact hlt) = r := ⟨_,rfl⟩;rw [hrr] at hrk;have hri := HL.out.2 r (ztv hrk);have h0r := hri.1;have h1r := hri.2;have qi := zsE HL.out.1 hrk;have HSU := Hd (zj9 (p := p) (ok := ok0) hrk)
     have HPW := Hd (HP.out.step HB.out)
     clear hrk hrr hri;obtain ⟨ok1,hok1⟩ : ∃ b,okK p regs ok0 k = b := ⟨_,rfl⟩;rw [hok1] at HSU ⊢;clear hok1
     cases ok1
     ·go_wp2
      go_roundw
      case measure => simp [intOf]; omega
      case rel => exact ⟨k + 1,by omega,by go_num,by rw [HSU.out]; rfl,HB.out⟩
     ·cases hr0 : decide (0 ≤ r)
      ·go_wp2
       go_roundw
       case measure => simp [intOf]; omega
       case rel => exact ⟨k + 1,by omega,by go_num,by rw [HSU.out,hr0]; rfl,HB.out⟩
      ·have hpl := HPW.out.pool.few
       go_wp2_with fail
       refine (zqK HPW.out.pool).mono ?_;rintro e w3 ⟨rfl,rfl⟩;obtain ⟨pl,hpl2⟩ : ∃ n,p.T.length = n := ⟨_,rfl⟩;rw [hpl2] at hpl HSU ⊢;clear hpl2
       cases hr1 : decide (r < (pl : Int))
       ·go_wp2
        go_roundw
        case measure => simp [intOf]; omega
        case rel => exact ⟨k + 1,by omega,by go_num,by rw [HSU.out,hr0,hr1]; rfl,HB.out⟩
       ·go_wp2
        go_roundw
        case measure => simp [intOf]; omega
        case rel => exact ⟨k + 1,by omega,by go_num,by rw [HSU.out,hr0,hr1]; rfl,HB.out⟩
    ·obtain rfl : k = 11 := by omega
     have HL5 := HB5.out.lt;have HL8 := HB8.out.lt;have HL7 := HB7.out.lt;replace HB7 := Hd (HB7.out.below HB.out HL7)
     replace HP := Hd (HP.out.step HB.out)
     replace HB5 := Hd (HB5.out.below HB.out HL5)
     replace HB8 := Hd (HB8.out.below HB.out HL8)
     replace HI := Hd (HI.out.step HB.out)
     replace HBKS := Hd (HBKS.out.chg (G := fun k => k < w1.heap.size) (Chg.of_below HB.out) (fun k q => .inr q) (fun k q => .inl q))
     replace HBE := Hd (zto HBE.out HB.out.size)
     have HA := Hd (show zgr p l block regs = okK p regs ok0 11 by
      rw [znq HL.out.1,← HOK0.out];unfold zgr;rw [HNB.out,Bool.and_assoc])
     clear HB HL5 HL7 HL8 hk hlt;obtain ⟨ok2,hok2⟩ : ∃ b,okK p regs ok0 11 = b := ⟨_,rfl⟩;rw [hok2] at HA ⊢;clear hok2 HOK0
     cases ok2
     ·have HV := Hd (zja (p := p) (c := c) (l := l) (block := block) (regs := regs) HER.out HA.out)
      go_wp2_with (first
       | (refine zae rfl 65 (.tmp 8) rfl ⟨b5 + 1 + 1,0,none⟩ (by rfl) zaq _ (zak HB8.out) underlying65 rfl zeE ?_)
       | (refine zaa rfl 65 (.tmp 8) (.tmp 57) rfl (b5 + 1 + 1) 0 65 zaq zaq (.agg zaq.toArray) HB8.out (by rfl) (by rfl) rfl zeE (by rw [zbC]; decide) zbQ ?_
          intro wq hBq hgq hsq;have HBQ := Hd hBq
          have HPQ := Hd (HP.out.own (b := b5 + 1 + 1) (HNF.out _ (by omega)) (by have := HB5e.out; omega) (Chg.of_grown hgq (fun k e => .inl (by injection e with e; exact e.symm))))
          clear hBq hgq hsq)
       | fail)
      have hrl := zbR HBQ.out rfl rfl;refine bodyPost_ret (v := .tuple #[.agg zaq.toArray,.int .i64 2]) ?_ rfl ⟨.slice none 0 0,_,by rw [HV.out]; rfl,by rw [HV.out]; exact HPQ.out,by rw [HV.out]; exact zbt.nil,rfl⟩;simp [results,results18,Act.put,asAddr,Result.andThen,hrl]
     ·skip
      have hask := HA.out;unfold zgr at hask;simp only [ztr,decide_eq_true_eq] at hask;obtain ⟨hb0,hb1,_⟩ := hask;rw [HNB.out] at hb1;obtain ⟨bn,hbn⟩ : ∃ bn : Nat,block = (bn : Int) := ⟨block.toNat,by omega⟩;have hbn2 : bn < nb := by omega
      subst hbn;clear hb0 hb1 h0b h1b;go_upto_region 15 with (first
       | (refine zae rfl 57 (.tmp 7) rfl ⟨b5 + 1,0,none⟩ (by rfl) (rgC regs) _ (zak HB7.out) underlying57 rfl (by rw [HLR.out]; exact zee) ?_)
       | (refine zfj rfl 65 _ rfl #[(0,.agg (rgC regs).toArray)] _ (by simp only [ztD,ztz,ztA]; rfl) (zno HL.out.1) ?_)
       | (refine zfj rfl 114 _ rfl #[(0,.pointer (some ⟨g,0,none⟩)),(1,.agg (zcF regs (.slice none 0 0) zaZ).toArray)] _ (by simp only [ztD,ztz,ztA]; rfl) (zk8 HL.out.1 g) ?_)
       | (refine zeU rfl 114 (.tmp 61) rfl (.agg (mC g regs (.slice none 0 0) zaZ 0).toArray) (mC g regs (.slice none 0 0) zaZ 0).toArray (by rfl) rfl ?_
          intro w3 bm hbm G3 L3;have HBM := Hd G3
          have HL3 := Hd L3
          have HBML := Hd hbm
          clear G3 L3 hbm)
       | fail)
      replace HP := Hd (HP.out.step HL3.out)
      have HL5 := HB5.out.lt;have HL8 := HB8.out.lt;replace HB5 := Hd (HB5.out.below HL3.out HL5)
      replace HB8 := Hd (HB8.out.below HL3.out HL8)
      replace HI := Hd (HI.out.step HL3.out)
      replace HBKS := Hd (HBKS.out.chg (G := fun k => k < w1.heap.size ∨ k = bm) (Chg.of_below HL3.out) (fun k q => .inr q) (fun k q => q.elim .inl (fun e => .inr (e ▸ HBML.out))))
      have HBM1 := Hd (show w1.heap.size ≤ bm from zto HBE.out HBML.out)
      replace HBE := Hd (zto HBE.out HL3.out.size)
      have hnF : ¬ F bm := HNF.out _ (by have := HBM1.out; have := HS1.out; omega);have HMS := Hd (MA.start HP.out.pool HBM.out (by have := HBM1.out; have := HS1.out; have := HBS.out; have := HB5e.out; omega) hnF HL.out.1 HL.out.2)
      clear HB7 HL3 HBML HBM hnF HL5 HL8
      -- the methods in their array
      have qk := zi8 bm;simp only [zgu] at qk;go_upto_region 16 with (first
       | (refine zag rfl 116 (.tmp 15) (.tmp 77) rfl _ (zgZ bm) (.agg (zgZ bm).toArray) (by rfl) (by rfl) rfl sizK (by rfl) (zk9 bm) ?_
          intro w4 G4 L4 Z4;have HKB := Hd G4
          have HL4 := Hd L4
          clear G4 L4 Z4)
       | fail)
      obtain ⟨bk,hbk⟩ : ∃ k,w3.heap.size = k := ⟨_,rfl⟩;rw [hbk] at HKB HL4 ⊢;have HBKE := Hd hbk
      have HLE := Hd (hbk ▸ HL4.out : Below w3.heap.size w3 w4)
      clear hbk qk HL4;have HL5 := HB5.out.lt;have HL8 := HB8.out.lt;replace HP := Hd (HP.out.step HLE.out)
      replace HB5 := Hd (HB5.out.below HLE.out HL5)
      replace HB8 := Hd (HB8.out.below HLE.out HL8)
      replace HI := Hd (HI.out.step HLE.out)
      replace HBKS := Hd (HBKS.out.chg (G := fun k => k < w1.heap.size ∨ k = bm) (Chg.of_below HLE.out) (fun k q => .inr q) (fun k q => .inl q))
      have HBMk := Hd (show bm < bk by rw [← HBKE.out]; exact HMS.out.lt)
      replace HMS := Hd (HMS.out.below HLE.out)
      replace HBE := Hd (zto HBE.out HLE.out.size)
      clear HL5 HL8 HLE
      -- the block
      obtain ⟨_,_,hn1,hn64,hok,_,_⟩ := zg1 HER.out;have HOK := Hd hok
      have HLN := Hd HI.out.1
      obtain ⟨ad,x,sv,hA2,hab,hnab,hx,hxw,hxn,hcell⟩ := HBKS.out.at_ hbn2;subst hA2;obtain ⟨i0,y0,hbf⟩ := zga (by omega) hn64 hok (ztv hx);obtain ⟨An,cn,hsv⟩ := hxn.form;subst hsv;have HX := Hd hx
      have HXN := Hd hxn
      have HCL := Hd hcell
      have HBF := Hd hbf
      obtain ⟨fn,hfn⟩ : ∃ k : Nat,x.frm = (k : Int) := ⟨x.frm.toNat,by have := hbf.lo; omega⟩;obtain ⟨tn,htn⟩ : ∃ k : Nat,x.upto = (k : Int) := ⟨x.upto.toNat,by have := hbf.lo; have := hbf.lt; omega⟩;have hft : fn < tn := by have := hbf.lt; omega
      have htl : tn ≤ n := by have := hbf.le; have := HI.out.1; omega
      have HFN := Hd hfn
      have HTN := Hd htn
      have hn64' : n ≤ 64 := by have := HI.out.1; omega
      clear hab hnab hx hxw hxn hcell hbf hok hn1 hn64 hfn htn;go_upto_region 17 with (first
       | (refine zae rfl 44 (.tmp 80) rfl (ad.add (bn * 3)) (by rfl) (bkC (x,.slice An x.next.length cn)) _ HCL.out underlying44 rfl zsx ?_)
       | (refine zag rfl 44 (.tmp 16) (.tmp 81) rfl _ (bkC (x,.slice An x.next.length cn)) (.agg (bkC (x,.slice An x.next.length cn)).toArray) (by rfl) (by rfl) rfl zsx (by rfl) (znp x rfl) ?_
          intro w5 G5 L5 Z5;have HXB := Hd G5
          have HL5 := Hd L5
          clear G5 L5 Z5)
       | fail)
      obtain ⟨bb,hbb⟩ : ∃ k,w4.heap.size = k := ⟨_,rfl⟩;rw [hbb] at HXB HL5 ⊢;have HLE := Hd (hbb ▸ HL5.out : Below w4.heap.size w4 w5)
      have HBB := Hd (show bk < bb by rw [← hbb]; exact HKB.out.lt)
      clear HL5 hbb;have HL5 := HB5.out.lt;have HL8 := HB8.out.lt;have HLK := HKB.out.lt;have HL9 := Hd HLE.out.size
      replace HP := Hd (HP.out.step HLE.out)
      replace HB5 := Hd (HB5.out.below HLE.out HL5)
      replace HB8 := Hd (HB8.out.below HLE.out HL8)
      replace HKB := Hd (HKB.out.below HLE.out HLK)
      replace HI := Hd (HI.out.step HLE.out)
      replace HXN := Hd (HXN.out.chg (G := fun k => F k ∨ k = bm) (Chg.of_below HLE.out) (fun k q => .inr q) (fun k q => .inl (q.elim (fun q => .inl (Nat.lt_of_not_le fun e => HNF.out k (by have := HS1.out; omega) q)) .inr)))
      replace HMS := Hd (HMS.out.below HLE.out)
      clear HL5 HL8 HLK HLE HBKS;have c51 : w5.cell? ⟨b5,1,none⟩ = some (.slice A n cap) := HB5.out.cell 1;have cb0 : w5.cell? ⟨bb,0,none⟩ = some (.int .i64 (fn : Int)) := by rw [← HFN.out]; exact HXB.out.cell 0
      have cb1 : w5.cell? ⟨bb,1,none⟩ = some (.int .i64 (tn : Int)) := by rw [← HTN.out]; exact HXB.out.cell 1
      go_wp2_with (first
       | (refine zgv rfl 22 47 (.tmp 83) (.tmp 85) (.tmp 87) rfl underlying22 9 ziZ A n cap fn tn .i64 .i64 (by rfl) (by rfl) (by rfl) (by omega) htl HM.out.1 (l.flatMap ID.cells) HI.out.2.2 ?_
          intro A3 hr3;have HIN := Hd (zpf HI.out (by omega) htl hr3)
          clear hr3)
       | fail)
      obtain ⟨nn,hnn⟩ : ∃ k,tn - fn = k := ⟨_,rfl⟩;rw [hnn] at HIN ⊢;obtain ⟨ins,hins⟩ : ∃ v,(l.drop fn).take nn = v := ⟨_,rfl⟩;rw [hins] at HIN;have HNN := Hd hnn
      have HINS := Hd hins
      have HMG := Hd (MG.refl HMS.out)
      have HBXB := Hd (show bk < bb ∧ bm < bk ∧ b5 + 1 + 1 < bm ∧ bb < w5.heap.size by have := HXB.out.lt; have := HBB.out; have := HBMk.out; have := HBM1.out; have := HS1.out; omega)
      have HINL := Hd (fun k (y : ID) (hy : ins[k]? = some y) => (by
       rw [← HINS.out] at hy;have h1 := ztt.1 hy;rw [List.getElem?_take_of_lt (by have := h1.1; simp at this; omega),zt4] at hy;exact ⟨ztv hy,HOK.out _ _ hy⟩ : y ∈ l ∧ zdI l.length (fn + k) y = true))
      clear hnn hins c51 cb0 cb1 HMS HBB HBMk;go_loopw [90] (fun iv wq => ∃ k : Nat,k ≤ nn ∧ iv = .int .i64 k ∧ ∃ F' G',MG base g bm (fun k => F k ∨ k = bm) w5 F' G' ((SM.mk p regs [] 0).go (ins.take k)) zaZ wq) (fun iv _ => nn - (intOf iv).toNat)
      case atStart => exact ⟨0,by omega,rfl,_,_,HMG.out⟩
      case round =>
       obtain ⟨k,hk,rfl,F',G',hmr⟩ := hrel
       rename World => wq
       clear HMG
       by_cases hlt : k < nn
       ·skip
        obtain ⟨ad3,xi,rfl,_,_,hxi,hxiw,hcell⟩ := (HIN.out.chg (G := fun k => F k ∨ b5 ≤ k) hmr.chg (fun c q => .inl (q.imp id (fun e => by have := HBXB.out; omega))) (fun c q => .inl q)).at_ hlt;have HCI := Hd hcell
        have HXI := Hd hxi
        have HXW := Hd hxiw
        have HMR := Hd hmr
        have hsz := hmr.size;have HNG := Hd (fun c (hc : bm < c) (q : F c ∨ c = bm) => q.elim (fun q => HNF.out c (by have := HBXB.out; omega) q) (fun e => by omega) : ∀ c,bm < c → ¬ (F c ∨ c = bm))
        have HKR := Hd (hmr.blk HKB.out (HNG.out bk (by have := HBXB.out; omega)))
        clear hcell hxi hxiw hmr;go_upto_region 20 with (first
         | (refine zae rfl 47 (.tmp 92) rfl (ad3.add (k * 9)) (by rfl) xi.cells _ HCI.out underlying47 rfl ziZ ?_)
         | (refine zag rfl 47 (.tmp 18) (.tmp 93) rfl _ xi.cells (.agg xi.cells.toArray) (by rfl) (by rfl) rfl ziZ (by rfl) xi.one ?_
            intro w6 G6 L6 Z6;have HBI := Hd G6
            have HL6 := Hd L6
            clear G6 L6 Z6)
         | fail)
        obtain ⟨bi,hbi⟩ : ∃ k,wq.heap.size = k := ⟨_,rfl⟩;rw [hbi] at HBI HL6 ⊢;have HLE6 := Hd (hbi ▸ HL6.out : Below wq.heap.size wq w6)
        have HM6 := Hd (HMR.out.step HLE6.out)
        have HK6 := Hd (HKR.out.1.below HLE6.out HKR.out.1.lt)
        have HNB2 := Hd (show ¬ G' bi ∧ ¬ G' bk ∧ bk < w6.heap.size from ⟨fun q => by have := (HMR.out.at_.low bi q).2; omega,HKR.out.2,HK6.out.lt⟩)
        have cer := HM6.out.at_.cerr;have HGT := Hd (zmN (m := SM.mk p regs [] 0) HXI.out)
        have HGE := Hd (show ((SM.mk p regs [] 0).go (ins.take k)).evs.length < 64 by
         have h1 := zmO (SM.mk p regs [] 0) (ins.take k);have h2 : (ins.take k).length ≤ k := by rw [ztW]; omega
         have h3 : (SM.mk p regs [] 0).evs.length = 0 := rfl;have := HNN.out;omega)
        obtain ⟨mk,hmk⟩ : ∃ m,(SM.mk p regs [] 0).go (ins.take k) = m := ⟨_,rfl⟩;rw [hmk] at HM6 cer HGT HGE;have hnn64 : nn ≤ 64 := by have := HNN.out; omega
        clear hbi HL6 HMR HKR HLE6 HCI hmk;obtain ⟨er,her⟩ : ∃ e,mk.err = e := ⟨_,rfl⟩;rw [her] at cer;have HERC := Hd her
        clear her
        cases hz : (er == 0)
        ·go_wp2
         go_roundw
         case measure => simp [intOf]; omega
         case rel => exact ⟨k + 1,by omega,by go_num,F',G',by rw [HGT.out,zjR (by rw [HERC.out]; simpa using hz)]; exact HM6.out⟩
        ·have he0 : er = 0 := by simpa using hz
         subst he0;have HMF := Hd (HINL.out k xi HXI.out)
         go_upto_region 21 with fail
         replace HM6 := Hd (HM6.out.step ((Below.refl _ _).drew))
         obtain ⟨f,hkf,hent,hst⟩ := zpc HM6.out.at_ xi HXW.out (by have := HMF.out.2; unfold zdI at this; simp only [ztr] at this; exact this.1) HGE.out HERC.out;have he' : ∀ args w,(callFunc f args).run prog w = .ok (.enter f args) w := hent;have hkd := (zcC (x := xi) (by have := HMF.out.2; unfold zdI at this; simp only [ztr] at this; exact this.1)).kind;obtain ⟨kn,hkn⟩ : ∃ kn : Nat,xi.kind = (kn : Int) := ⟨xi.kind.toNat,by omega⟩;rw [hkn,ztx] at hkf;have HKN := Hd (ztp hkn (show kn < 7 by omega))
         have HKF := Hd (show w6.drew.cell? ⟨bk,kn,none⟩ = some (.func (.func f) #[.pointer (some ⟨bm,0,none⟩)] #[]) by
          have h1 := HK6.out.cell kn;rw [ztK,zpe hkf] at h1;exact h1)
         have HST := Hd hst
         replace HBI := Hd (show Blk w6.drew bi 47 xi.cells.toArray from HBI.out)
         clear hkf hent hst hkd hkn cer HK6;refine zac (fun w' => Blk w' bi 47 xi.cells.toArray ∧ w'.cell? ⟨bk,kn,none⟩ = some (.func (.func f) #[.pointer (some ⟨bm,0,none⟩)] #[])) (fun _ => True) [] (by kernel_rfl) ?_;replace HNB2 := Hd (show ¬ G' bi ∧ ¬ G' bk ∧ bk < w6.drew.heap.size from HNB2.out)
         generalize w6.drew = Wd at HM6 HKF HST HBI HNB2 ⊢;have HT := Hd (ztp HBI.out HKF.out)
         refine ef 0 ⟨bi,0,none⟩ ⟨bi,0,none⟩ (bT HT) ?_;refine el false 1 ⟨bi,0,none⟩ (.int .i8 xi.kind) underlying30 (fun w hS => (hS.1.1.cell 0)) (bT HT) ?_;refine ej 2 (.pointer (some ⟨bk,0,none⟩)) (.int .i8 xi.kind) (.pointer (some ⟨bk,kn,none⟩)) (zp6 bk HKN.out.1 HKN.out.2) (bT HT) ?_;refine el false 3 ⟨bk,kn,none⟩ (.func (.func f) #[.pointer (some ⟨bm,0,none⟩)] #[]) underlying115 (fun w hS => (hS.1.2)) (bT HT) ?_;refine eL false 4 ⟨bi,0,none⟩ xi.cells (fun w hS => zak hS.1.1) underlying47 ziZ (bT HT) ?_;refine eo 5 fun o K h2 h3 hKK => ?_
         unfold Oper.wp execOp;simp only [h3];go_simp;refine HST.out.mono ?_;rintro e w7 ⟨rfl,F7,G7,hm7⟩;replace HT := Hd (⟨(hm7.blk HT.out.1 HNB2.out.1).1,(World.cell?_of_block (a := ⟨bk,kn,none⟩) (hm7.chg.block bk HNB2.out.2.2 HNB2.out.2.1)).trans HT.out.2⟩ : Blk w7 bi 47 xi.cells.toArray ∧ w7.cell? ⟨bk,kn,none⟩ = some (.func (.func f) #[.pointer (some ⟨bm,0,none⟩)] #[]))
         dsimp only;refine hKK _ _ (bT HT) ?_;clear hKK h2 h3 K o;try simp only [pt,pn,sL]
         refine zab (by kernel_rfl) ?_ _;go_wp2;go_roundw
         case measure => simp [intOf]; omega
         case rel => exact ⟨k + 1,by omega,by go_num,_,_,by rw [HGT.out]; exact HM6.out.trans hm7⟩
       ·obtain rfl : k = nn := by omega
        have HIL := Hd (show ins.take k = ins from ztN (by rw [HIN.out.1]; exact ztn _))
        rw [HIL.out] at hmr;have HXT := Hd (show za2 l (bn : Int) = x by unfold za2; rw [ztx,zts,HX.out]; rfl)
        have HGO := Hd (show goV p l (bn : Int) regs = (SM.mk p regs [] 0).go ins by
         unfold goV zef;rw [HXT.out,HFN.out,HTN.out,show ((tn : Int) - (fn : Int)).toNat = k by have := HNN.out; omega,ztx,HINS.out])
        obtain ⟨mk,hmk⟩ : ∃ m,(SM.mk p regs [] 0).go ins = m := ⟨_,rfl⟩;rw [hmk] at hmr HGO;have HNG := Hd (fun c (hc : bm < c) (q : F c ∨ c = bm) => q.elim (fun q => HNF.out c (by have := HBXB.out; omega) q) (fun e => by omega) : ∀ c,bm < c → ¬ (F c ∨ c = bm))
        have HN5 := Hd (fun c (hc : b5 ≤ c) (hc2 : c < bm) (q : F c ∨ c = bm) => q.elim (fun q => HNF.out c hc q) (fun e => by omega) : ∀ c,b5 ≤ c → c < bm → ¬ (F c ∨ c = bm))
        have HM := Hd hmr
        have HV0 := Hd (zpV (p := p) (c := c) (l := l) (block := (bn : Int)) (regs := regs) HER.out HA.out)
        rw [HGO.out,HXT.out] at HV0;replace HB8 := Hd (HM.out.blk HB8.out (HN5.out _ (by omega) (by have := HBXB.out; omega))).1
        have HB5q := Hd (HM.out.blk HB5.out (HN5.out _ (by omega) (by have := HBXB.out; omega)))
        have HXBq := Hd (HM.out.blk HXB.out (HNG.out _ (by have := HBXB.out; omega)))
        have HIq := Hd (HI.out.chg (G := fun k => F k ∨ b5 ≤ k) hmr.chg (fun c q => .inl (q.imp id (fun e => by have := HBXB.out; omega))) (fun c q => .inl q))
        have HXNq := Hd (HXN.out.chg (G := G') hmr.chg (fun c q => .inl q) (fun c q => hmr.new c q))
        have cer := HM.out.at_.cerr;obtain ⟨er,her⟩ : ∃ e,mk.err = e := ⟨_,rfl⟩;rw [her] at cer;have HERC := Hd her
        clear hmr hmk her HIL HGO HXT HXN HB5 HXB HI HKB HIN HINS HFN HINL HX
        cases hz : (er == 0)
        ·have HV := Hd (show zgn p c l (bn : Int) regs = ⟨mk.p,zan,[],zaZ,er⟩ by rw [HV0.out,if_pos (by rw [HERC.out]; simpa using hz),HERC.out])
         go_upto_region 26 with fail
         clear cer;refine zac (fun w' => w'.cell? ⟨bm,17,none⟩ = some (.int .i64 er)) (fun _ => True) [] (by kernel_rfl) ?_;replace HM := Hd (HM.out.step ((Below.refl _ _).drew))
         replace HB8 := Hd (show Blk wq.drew (b5 + 1 + 1) 65 zaq.toArray from HB8.out)
         have cer : wq.drew.cell? ⟨bm,17,none⟩ = some (.int .i64 er) := HERC.out ▸ HM.out.at_.cerr;generalize wq.drew = Wz at HM HB8 cer ⊢;have HT := Hd cer
         refine zcH 0 (some 127) _ _ (#[]) (.agg zaq.toArray) rfl (by kernel_rfl) (by rfl) (fun _ _ _ h => h) (by simp only [ztD,ztz,ztA] <;> rfl) zeF (bT HT) ?_;simp only [pt,pn,sL];refine em 1 (.pointer (some ⟨bm,0,none⟩)) (bT HT) ?_;refine ez 2 ⟨bm,0,none⟩ (bT HT) ?_;refine ef 3 ⟨bm,0,none⟩ ⟨bm,17,none⟩ (bT HT) ?_;refine el false 4 ⟨bm,17,none⟩ (.int .i64 er) underlying35 (fun w hS => (hS.1)) (bT HT) ?_;refine zaN 5 (by kernel_rfl) (zar.store_at 5 65 _ _ ⟨b5 + 1 + 1,0,none⟩ (.agg zaq.toArray) _ rfl (by rfl) (by rfl) (by rfl) (zaX Wz (b5 + 1 + 1) 0 65 65 zaq zaq _ HB8.out rfl zeE (by rw [zbC]; decide) zbQ) (.both ((World.cell?_of_block (a := ⟨bm,17,none⟩) ((zaD Wz (b5 + 1 + 1) _).block bm HM.out.at_.lt (fun e => by injection e with e; have := HBXB.out; omega))).trans HT.out) trivial) ?_);replace HT := Hd ((World.cell?_of_block (a := ⟨bm,17,none⟩) ((zaD Wz (b5 + 1 + 1) (zaM zaq 0 zaq).toArray).block bm HM.out.at_.lt (fun e => by injection e with e; have := HBXB.out; omega))).trans HT.out)
         simp only [pt,pn,sL];refine eS 6 (.int .i64 er) (bT HT) ?_;refine zab (by kernel_rfl) ?_ _;have hBq := setRow_heap Wz (b5 + 1 + 1) _ (zaM zaq 0 zaq).toArray 65 (0,0) HB8.out;have hgq := zaD Wz (b5 + 1 + 1) (zaM zaq 0 zaq).toArray;have HPQ := Hd ((HM.out.pgo HP.out (by have := HBXB.out; have := HB5e.out; omega)).own (b := b5 + 1 + 1) (fun q => (HM.out.new _ (HM.out.at_.sub _ q)).elim (fun q => q.elim (HNF.out _ (by omega)) (fun e => by have := HBXB.out; omega)) (fun e => by have := HBXB.out; omega)) (by have := HB5e.out; omega) (Chg.of_grown hgq (fun k e => .inl (by injection e with e; exact e.symm))))
         have hrl := zbR hBq rfl rfl;go_wp2;refine bodyPost_ret (v := .tuple #[.agg zaq.toArray,.int .i64 er]) ?_ rfl ⟨.slice none 0 0,_,by rw [HV.out]; rfl,by rw [HV.out]; exact HPQ.out,by rw [HV.out]; exact zbt.nil,rfl⟩;simp [results,results18,Act.put,asAddr,Result.andThen,hrl]
        ·have he0 : er = 0 := by simpa using hz
         subst he0;have hbf := HBF.out;obtain ⟨ad9,y9,hA9,hab9,hnf9,hy9,hyw9,hc9⟩ := HIq.out.at_ (k := i0) (by have := hbf.last; have := HTN.out; omega);subst hA9;have hyy : y9 = y0 := by have := hbf.at_; rw [hy9] at this; exact Option.some.inj this
         subst hyy;have HI0 := Hd (show i0 < n ∧ n ≤ 64 from ⟨by have := hbf.last; have := HTN.out; omega,by omega⟩)
         have HOY := Hd (show ze8 y9 = true by have := HOK.out i0 y9 hy9; unfold zdI at this; simp only [ztr] at this; exact this.1)
         have HYW := Hd hyw9
         have HCY := Hd hc9
         have HTO := Hd (show x.upto = (i0 : Int) + 1 from hbf.last)
         have H12 := Hd (ztp hbf.one hbf.two)
         have HYL := Hd (show l.getD (x.upto - 1).toNat zc0 = y9 by rw [hbf.last,show ((i0 : Int) + 1 - 1).toNat = i0 by omega,zts,hy9]; rfl)
         have HAB := Hd (ztp hab9 (fun q => (HM.out.new _ q).elim (fun q => hnf9 (q.imp id (fun e => by have := HBXB.out; omega))) (fun e => hnf9 (.inr (by have := HBXB.out; omega))) : ¬ G' ad9.block))
         clear hbf hab9 hnf9 hy9 hyw9 hc9;rw [if_neg (by rw [HERC.out]; simp),HYL.out] at HV0;obtain ⟨q,hq⟩ : ∃ q,mk.ends y9 x.next = q := ⟨_,rfl⟩
         rw [hq] at HV0;go_upto_region 24 with fail
         clear cer;replace HM := Hd (HM.out.step ((Below.refl _ _).drew))
         have hen := zpd HM.out.at_ y9 HYW.out HOY.out (HXNq.out.chg (G := G') (H := fun _ => False) (w' := wq.drew) (Chg.of_below ((Below.refl _ _).drew)) (fun c q => q.elim) (fun c q => .inl q)) H12.out.1 H12.out.2;rw [hq] at hen;have HEN := Hd hen
         have HTN := Hd (fun (Wx : World) (hc : Chg G' wq.drew Wx) => (⟨(World.cell?_of_block (a := ⟨b5,1,none⟩) (hc.block b5 HB5q.out.1.lt HB5q.out.2)).trans (HB5q.out.1.cell 1),(World.cell?_of_block (a := ⟨bb,1,none⟩) (hc.block bb HXBq.out.1.lt HXBq.out.2)).trans (by rw [← HTO.out]; exact HXBq.out.1.cell 1),(World.cell?_of_block (a := ⟨bb,2,none⟩) (hc.block bb HXBq.out.1.lt HXBq.out.2)).trans (HXBq.out.1.cell 2),fun j u hu => (World.cell?_of_block (by rw [zaz,zaz]; exact hc.block _ HAB.out.1 HAB.out.2)).trans (HCY.out j u hu)⟩ : Wx.cell? ⟨b5,1,none⟩ = some (.slice (some ad9) n cap) ∧ Wx.cell? ⟨bb,1,none⟩ = some (.int .i64 ((i0 : Int) + 1)) ∧ Wx.cell? ⟨bb,2,none⟩ = some (.slice An x.next.length cn) ∧ ∀ j u,y9.cells[j]? = some u → Wx.cell? ((ad9.add (i0 * 9)).add j) = some u))
         replace HB8 := Hd (show Blk wq.drew (b5 + 1 + 1) 65 zaq.toArray ∧ ¬ G' (b5 + 1 + 1) from ⟨HB8.out,fun q => (HM.out.new _ q).elim (HN5.out _ (by omega) (by have := HBXB.out; omega)) (fun e => by have := HBXB.out; omega)⟩)
         clear hen hq HXNq HIq HOK HBF;refine zac (fun Wx => Wx.cell? ⟨b5,1,none⟩ = some (.slice (some ad9) n cap) ∧ Wx.cell? ⟨bb,1,none⟩ = some (.int .i64 ((i0 : Int) + 1)) ∧ Wx.cell? ⟨bb,2,none⟩ = some (.slice An x.next.length cn) ∧ ∀ j u,y9.cells[j]? = some u → Wx.cell? ((ad9.add (i0 * 9)).add j) = some u) (fun _ => True) [] (by kernel_rfl) ?_;have HT := Hd (HTN.out _ (Chg.refl _ _))
         generalize wq.drew = w8 at HM HEN HTN HT HB8 ⊢;refine em 0 (.pointer (some ⟨bm,0,none⟩)) (bT HT) ?_;refine ef 1 ⟨b5,0,none⟩ ⟨b5,1,none⟩ (bT HT) ?_;refine el false 2 ⟨b5,1,none⟩ (.slice (some ad9) n cap) underlying22 (fun w hS => (hS.1.1)) (bT HT) ?_;refine ef 3 ⟨bb,0,none⟩ ⟨bb,1,none⟩ (bT HT) ?_;refine el false 4 ⟨bb,1,none⟩ (.int .i64 ((i0 : Int) + 1)) underlying3 (fun w hS => (hS.1.2.1)) (bT HT) ?_;refine eb 5 (.int .i64 (i0 : Int)) rfl (fun o e w _ => by unfold execOp; simp only [e]; go_simp; try rw [zea (by have := HI0.out; omega)]; try (congr 2; omega)) (bT HT) ?_;refine ej 6 (.slice (some ad9) n cap) (.int .i64 (i0 : Int)) (.pointer (some (ad9.add (i0 * 9)))) (zlD HI0.out) (bT HT) ?_;refine eL false 7 (ad9.add (i0 * 9)) y9.cells (fun w hS => hS.1.2.2.2) underlying47 ziZ (bT HT) ?_;refine ef 8 ⟨bb,0,none⟩ ⟨bb,2,none⟩ (bT HT) ?_;refine el false 9 ⟨bb,2,none⟩ (.slice An x.next.length cn) underlying28 (fun w hS => (hS.1.2.2.1)) (bT HT) ?_;refine eo 10 fun o K h2 h3 hKK => ?_
         unfold Oper.wp execOp;simp only [h3];go_simp;refine HEN.out.mono ?_;rintro e w9 ⟨rfl,F9,G9,hm9⟩;replace HT := Hd (HTN.out w9 hm9.chg)
         dsimp only;refine hKK _ _ (bT HT) ?_;clear hKK h2 h3 K o;try simp only [pt,pn,sL]
         refine zab (by kernel_rfl) ?_ _;replace HM := Hd (HM.out.trans hm9)
         replace HB8 := Hd (hm9.blk HB8.out.1 HB8.out.2).1
         clear HT HTN HEN hm9;obtain ⟨m2,ex2⟩ := q;dsimp only at HM HV0;have cer := HM.out.at_.cerr;obtain ⟨er,her⟩ : ∃ e,m2.err = e := ⟨_,rfl⟩;rw [her] at cer;replace HERC := Hd her
         clear her
         cases hz : (er != 0)
         ·have he0 : er = 0 := by simpa using hz
          subst he0;have HV := Hd (show zgn p c l (bn : Int) regs = ⟨m2.p,m2.regs,m2.evs,ex2,0⟩ by rw [HV0.out,if_neg (by rw [HERC.out]; simp)])
          obtain ⟨es,hBm,hev,ho⟩ := HM.out.at_.out;rw [zpU] at hBm;have HSL := Hd (zb7 HM.out.at_.len es ex2)
          have HSO := Hd (zdf (regs := m2.regs) ho ex2)
          have HLD := Hd (show ∀ j u,(zcF m2.regs es ex2)[j]? = some u → w9.cell? ((⟨bm,1,none⟩ : Addr).add j) = some u from fun j u hu => zjt hBm j u (by rw [ztJ (ztt.1 hu).1]; exact hu))
          have HEV := Hd hev
          have HO1 := Hd ho
          clear hBm hev ho;go_wp2_with (first
           | (refine zae rfl 65 (.tmp 134) rfl ⟨bm,1,none⟩ (by rfl) (zcF m2.regs es ex2) _ HLD.out underlying65 rfl (by rw [HSL.out]; exact zeE) ?_)
           | (refine zaa rfl 65 (.tmp 8) (.tmp 135) rfl (b5 + 1 + 1) 0 65 zaq (zcF m2.regs es ex2) (.agg (zcF m2.regs es ex2).toArray) HB8.out (by rfl) (by rfl) rfl (by rw [HSL.out]; exact zeE) (by rw [HSL.out,zbC]; decide) HSO.out ?_
              intro wr8 hBq hgq hsq;have HBQ := Hd hBq
              have HGQ := Hd hgq
              clear hBq hgq hsq)
           | fail)
          have hnb8 := Hd (fun q => (HM.out.new _ q).elim (HN5.out _ (by omega) (by have := HBXB.out; omega)) (fun e => by have := HBXB.out; omega) : ¬ G9 (b5 + 1 + 1))
          have hcq := Chg.of_grown (F := fun k => k = b5 + 1 + 1) HGQ.out (fun k e => .inl (by injection e with e; exact e.symm));have HPQ := Hd ((HM.out.pgo HP.out (by have := HBXB.out; have := HB5e.out; omega)).own (b := b5 + 1 + 1) (fun q => hnb8.out (HM.out.at_.sub _ q)) (by have := HB5e.out; omega) hcq)
          have hrl := zbR HBQ.out rfl HSL.out;have HEQ := Hd (HEV.out.chg (G := fun k => F9 k ∨ k < w.heap.size) hcq (fun k e => .inl (.inr (by subst e; have := HBXB.out; omega))) (fun k q => q.elim (fun q => .inl (.inl q)) (fun e => .inl (.inr (by have := HBXB.out; have := HB5e.out; omega)))))
          refine bodyPost_ret (v := .tuple #[.agg (zcF m2.regs es ex2).toArray,.int .i64 0]) ?_ rfl ⟨es,F9,by rw [HV.out],by rw [HV.out]; exact HPQ.out,by rw [HV.out]; exact HEQ.out,HO1.out⟩;simp [results,results18,Act.put,asAddr,Result.andThen,hrl]
         ·have HV := Hd (show zgn p c l (bn : Int) regs = ⟨m2.p,zan,[],zaZ,er⟩ by rw [HV0.out,if_pos (by rw [HERC.out]; simpa using hz),HERC.out])
          go_upto_region 26 with fail
          clear cer;refine zac (fun w' => w'.cell? ⟨bm,17,none⟩ = some (.int .i64 er)) (fun _ => True) [] (by kernel_rfl) ?_;replace HM := Hd (HM.out.step ((Below.refl _ _).drew))
          replace HB8 := Hd (show Blk w9.drew (b5 + 1 + 1) 65 zaq.toArray from HB8.out)
          have cer : w9.drew.cell? ⟨bm,17,none⟩ = some (.int .i64 er) := HERC.out ▸ HM.out.at_.cerr;generalize w9.drew = Wz at HM HB8 cer ⊢;have HT := Hd cer
          refine zcH 0 (some 127) _ _ (#[]) (.agg zaq.toArray) rfl (by kernel_rfl) (by rfl) (fun _ _ _ h => h) (by simp only [ztD,ztz,ztA] <;> rfl) zeF (bT HT) ?_;simp only [pt,pn,sL];refine em 1 (.pointer (some ⟨bm,0,none⟩)) (bT HT) ?_;refine ez 2 ⟨bm,0,none⟩ (bT HT) ?_;refine ef 3 ⟨bm,0,none⟩ ⟨bm,17,none⟩ (bT HT) ?_;refine el false 4 ⟨bm,17,none⟩ (.int .i64 er) underlying35 (fun w hS => (hS.1)) (bT HT) ?_;refine zaN 5 (by kernel_rfl) (zar.store_at 5 65 _ _ ⟨b5 + 1 + 1,0,none⟩ (.agg zaq.toArray) _ rfl (by rfl) (by rfl) (by rfl) (zaX Wz (b5 + 1 + 1) 0 65 65 zaq zaq _ HB8.out rfl zeE (by rw [zbC]; decide) zbQ) (.both ((World.cell?_of_block (a := ⟨bm,17,none⟩) ((zaD Wz (b5 + 1 + 1) _).block bm HM.out.at_.lt (fun e => by injection e with e; have := HBXB.out; omega))).trans HT.out) trivial) ?_);replace HT := Hd ((World.cell?_of_block (a := ⟨bm,17,none⟩) ((zaD Wz (b5 + 1 + 1) (zaM zaq 0 zaq).toArray).block bm HM.out.at_.lt (fun e => by injection e with e; have := HBXB.out; omega))).trans HT.out)
          simp only [pt,pn,sL];refine eS 6 (.int .i64 er) (bT HT) ?_;refine zab (by kernel_rfl) ?_ _;have hBq := setRow_heap Wz (b5 + 1 + 1) _ (zaM zaq 0 zaq).toArray 65 (0,0) HB8.out;have hgq := zaD Wz (b5 + 1 + 1) (zaM zaq 0 zaq).toArray;have HPQ := Hd ((HM.out.pgo HP.out (by have := HBXB.out; have := HB5e.out; omega)).own (b := b5 + 1 + 1) (fun q => (HM.out.new _ (HM.out.at_.sub _ q)).elim (fun q => q.elim (HNF.out _ (by omega)) (fun e => by have := HBXB.out; omega)) (fun e => by have := HBXB.out; omega)) (by have := HB5e.out; omega) (Chg.of_grown hgq (fun k e => .inl (by injection e with e; exact e.symm))))
          have hrl := zbR hBq rfl rfl;go_wp2;refine bodyPost_ret (v := .tuple #[.agg zaq.toArray,.int .i64 er]) ?_ rfl ⟨.slice none 0 0,_,by rw [HV.out]; rfl,by rw [HV.out]; exact HPQ.out,by rw [HV.out]; exact zbt.nil,rfl⟩;simp [results,results18,Act.put,asAddr,Result.andThen,hrl]
end
end
section
def wkL : List ID := [⟨0,11,64,0,true,0,1,0,0⟩,⟨0,0,64,0,false,0,0,0,2⟩,⟨6,0,0,0,false,0,0,0,0⟩]
def zq5 : PS := ⟨P0.T ++ [zaf 2],P0.D ++ [1]⟩
def wkP : PS := ⟨zq5.T ++ [opT 0 64 1 11],zq5.D ++ [2]⟩
def wkR : List Int := [12,1,2,3,4,5,6,7,8,9,10]
theorem zsF : opV P0 11 64 0 1 = (P0,1,0) := zmK (f := 3) (by kernel_rfl)
theorem zsG : opV zq5 0 64 1 11 = (wkP,12,0) := zmK (f := 3) (by kernel_rfl)
theorem wk_n : putR P0 (zaf (IntKind.u64.wrap 2)) = (zq5,11,0) := by kernel_rfl
theorem zsH : (SM.mk P0 R0 [] 0).step ⟨0,11,64,0,true,0,1,0,0⟩ = ⟨P0,[1,1,2,3,4,5,6,7,8,9,10],[],0⟩ := by
 show (let s := (SM.mk P0 R0 [] 0).keep (opV P0 11 64 0 1); s.1.set 0 s.2) = _
 rw [zsF]
 rfl
theorem zsI : (SM.mk P0 [1,1,2,3,4,5,6,7,8,9,10] [] 0).step ⟨0,0,64,0,false,0,0,0,2⟩ = ⟨wkP,wkR,[],0⟩ := by
 show (let q := (SM.mk P0 [1,1,2,3,4,5,6,7,8,9,10] [] 0).keep (putR P0 (zaf (IntKind.u64.wrap 2))); let s := q.1.keep (opV q.1.p 0 64 1 q.2); s.1.set 0 s.2) = _
 rw [wk_n];show (let s := (SM.mk zq5 [1,1,2,3,4,5,6,7,8,9,10] [] 0).keep (opV zq5 0 64 1 11); s.1.set 0 s.2) = _
 rw [zsG]
 rfl
theorem zsJ : goV P0 wkL 0 R0 = ⟨wkP,wkR,[],0⟩ := by
 have e : zef wkL (za2 wkL 0) = wkL := by kernel_rfl
 unfold goV;rw [e];show (((SM.mk P0 R0 [] 0).step ⟨0,11,64,0,true,0,1,0,0⟩).step ⟨0,0,64,0,false,0,0,0,2⟩).step ⟨6,0,0,0,false,0,0,0,0⟩ = _
 rw [zsH,zsI]
 rfl
theorem zrh : zgn P0 0 wkL 0 R0 = ⟨wkP,wkR,[],⟨0,12,0,0⟩,0⟩ := by
 have h1 : (zdj 0 wkL).2 = 0 := by kernel_rfl
 have h2 : zgr P0 wkL 0 R0 = true := by kernel_rfl
 rw [zpV h1 h2,zsJ];have e : wkL.getD ((za2 wkL 0).upto - 1).toNat zc0 = ⟨6,0,0,0,false,0,0,0,0⟩ := by kernel_rfl
 rw [e]
 rfl
def wkV : List Int := [0,40,0,0,0,0,0,0,0,0,0]
theorem zri : znD (evP wkP.T wkV 12) = (42,0) := by kernel_rfl
theorem zeo (w : World) : Calls prog 6 #[] w fun e w' => e = .returned (.bool true) ∧ Below w.heap.size w w' := by
 go_enter func6,ntmps6;go_wp2_with fail
 refine (zm7 _).mono ?_;rintro e w0 ⟨g,F0,rfl,hp,hb⟩;have HF := Hd (fun b q => (hp.fb b q).1 : ∀ b,F0 b → w.heap.size ≤ b)
 have HB := Hd hb
 have HW := Hd hb
 have HQ := Hd (PG.refl hp)
 clear hp hb;go_upto_region 3 with fail
 have hs0 : w0.heap.size = w0.heap.size := rfl;obtain ⟨b0,hb0⟩ : ∃ k,w0.heap.size = k := ⟨_,rfl⟩;rw [hb0];obtain ⟨w1,hw1⟩ : ∃ v,(w0.alloc (.cells (wkL.flatMap ID.cells).toArray 47)).alloc (.cells #[.int .i64 0,.slice (some ⟨b0,0,none⟩) 3 3] 24) = v := ⟨_,rfl⟩;show Code.wp prog _ _ _ ((w0.alloc (.cells (wkL.flatMap ID.cells).toArray 47)).alloc (.cells #[.int .i64 0,.slice (some ⟨b0,0,none⟩) 3 3] 24))
 rw [hw1];have hb1 : Below w0.heap.size w0 w1 := by rw [← hw1]; exact ((Below.refl _ w0).alloc (ztn _) _).alloc (by simp) _
 have HBL := Hd (show Blk w1 b0 47 (wkL.flatMap ID.cells).toArray by rw [← hw1,← hb0]; exact (Blk.new w0 47 (wkL.flatMap ID.cells).toArray).alloc _)
 have HBP := Hd (show Blk w1 (b0 + 1) 24 #[.int .i64 0,.slice (some ⟨b0,0,none⟩) 3 3] by
  rw [← hw1,← hb0];have := Blk.new (w0.alloc (.cells (wkL.flatMap ID.cells).toArray 47)) 24 #[.int .i64 0,.slice (some ⟨w0.heap.size,0,none⟩) 3 3]
  simpa using this)
 have HNF := Hd (fun q => by have := (HQ.out.pool.fb b0 q).2; omega : ¬ F0 b0)
 have HNP := Hd (fun q => by have := (HQ.out.pool.fb (b0 + 1) q).2; omega : ¬ F0 (b0 + 1))
 replace HQ := Hd (HQ.out.step hb1)
 replace HB := Hd (zto HB.out.size hb1.size)
 have HB0 := Hd hb0
 clear hw1 hb1 hs0 hb0;go_wp2_with fail
 refine (zh3 HQ.out.pool HB.out).mono ?_;rintro e w2 ⟨rfl,F1,hp1⟩;rw [zek] at hp1 ⊢;have HBL1 := Hd (hp1.blk HBL.out HNF.out)
 have HBP1 := Hd (hp1.blk HBP.out HNP.out)
 replace HQ := Hd (HQ.out.trans hp1)
 replace HB := Hd (zto HB.out hp1.chg.size)
 clear hp1 HBL HBP HNF HNP;go_upto_region 4 with (first
  | (refine zag rfl 57 (.tmp 3) (.tmp 18) rfl _ (rgC R0) (.agg (rgC R0).toArray) (by rfl) (by rfl) rfl zee (by rfl) (zb9 _) ?_
     intro w3 G3 L3 Z3;have HB3 := Hd G3
     have HL3 := Hd L3
     clear G3 L3 Z3)
  | fail)
 have hn3 : ¬ F1 w2.heap.size := fun q => by have := (HQ.out.pool.fb _ q).2; omega
 obtain ⟨b3,hb3⟩ : ∃ k,w2.heap.size = k := ⟨_,rfl⟩;rw [hb3] at HB3 hn3 ⊢;have HBL2 := Hd (ztp (HBL1.out.1.below HL3.out HBL1.out.1.lt) HBL1.out.2)
 have HBP2 := Hd (ztp (HBP1.out.1.below HL3.out HBP1.out.1.lt) HBP1.out.2)
 replace HQ := Hd (HQ.out.step HL3.out)
 replace HB := Hd (zto HB.out HL3.out.size)
 have HIN := Hd (show ze9 w3 F1 (some ⟨b0,0,none⟩) 3 wkL from ⟨rfl,by
  intro x hx;simp only [wkL,ztM,zt5,or_false] at hx
  rcases hx with rfl | rfl | rfl <;> (unfold ID.wf I8 I64; dsimp only; omega),rfl,fun _ => ⟨_,rfl,HBL2.out.1.lt,HBL2.out.2,zak HBL2.out.1⟩⟩)
 have c20 : w3.cell? ⟨b0 + 1,0,none⟩ = some (.int .i64 0) := HBP2.out.1.cell 0;have c21 : w3.cell? ⟨b0 + 1,1,none⟩ = some (.slice (some ⟨b0,0,none⟩) 3 3) := HBP2.out.1.cell 1;clear hb3 HL3 HBL1 HBP1 HBL2 HBP2;go_wp2_with (first
  | (refine zae rfl 57 (.tmp 3) rfl ⟨b3,0,none⟩ (by rfl) (rgC R0) _ (zak HB3.out) underlying57 rfl zee ?_)
  | fail)
 refine (zjn HQ.out.pool HB.out 0 (some ⟨b0,0,none⟩) 3 3 wkL HIN.out (ztn _) (by omega) 0 (by unfold I64; omega) R0 rfl (fun r hr => zap zdi.1 (zdi.2.2 r hr))).mono ?_;rintro e w4 ⟨es,F2,rfl,hp2,hev,ho⟩;rw [zrh] at hp2 ⊢;replace HQ := Hd (HQ.out.trans hp2)
 replace HB := Hd (zto HB.out hp2.chg.size)
 have HO := Hd ho
 clear hp2 hev ho c20 c21 HIN HB3 hn3;go_upto_region 5 with (first
  | (refine zag rfl 65 (.tmp 5) (.tmp 25) rfl _ (zcF wkR es ⟨0,12,0,0⟩) (.agg (zcF wkR es ⟨0,12,0,0⟩).toArray) (by rfl) (by rfl) rfl zeE (by rfl) (zdf HO.out _) ?_
     intro w5 G5 L5 Z5;have HB5 := Hd G5
     have HL5 := Hd L5
     clear G5 L5 Z5)
  | fail)
 replace HQ := Hd (HQ.out.step HL5.out)
 replace HB := Hd (zto HB.out HL5.out.size)
 obtain ⟨b5,hb5⟩ : ∃ k,w4.heap.size = k := ⟨_,rfl⟩;rw [hb5] at HB5 ⊢;have c513 : w5.cell? ⟨b5,13,none⟩ = some (.int .i64 12) := HB5.out.cell 13;have HK5 := Hd (show w5.cell? ⟨b5,12,none⟩ = some (.int .i8 0) from HB5.out.cell 12)
 have HL55 := HB5.out.lt;clear hb5 HL5 HB5;go_wp2_with fail
 have hbA := zbN w5 (.cells (wkV.map (Value.int .u64)).toArray 31);replace HQ := Hd (HQ.out.step hbA)
 replace HB := Hd (zto HB.out hbA.size)
 refine (zjs (vs := wkV) (nn := 11) (c := 11) 12 (by unfold I64; omega) _ HQ.out.pool (zbB w5 31 (wkV.map (Value.int .u64)) 11 rfl) rfl (ztn _) (by omega) (fun v hv => by simp only [wkV,ztM,zt5,or_false] at hv; unfold U64; omega)).mono ?_;rintro e w6 ⟨rfl,hb⟩;rw [zri];have c512 : w6.cell? ⟨b5,12,none⟩ = some (.int .i8 0) := (hb.cell (by simp; omega)).trans ((hbA.cell (by exact HL55)).trans HK5.out);replace HQ := Hd (HQ.out.step hb)
 clear hb hbA HK5 c513;go_wp2;go_ret;exact ⟨rfl,HW.out.trans (HQ.out.chg.below (B := w.heap.size) (fun b q => HF.out b q) HW.out.size)⟩
end
section
theorem znY (p : PS)(c : Int)(l : List ID)(block : Int){regs : List Int}{k : Nat}(h : MI (SM.mk p regs [] 0) (k + 1950) 1) : (zgn p c l block regs).regs.length = 11 := by
 by_cases hc : (zdj c l).2 = 0
 ·cases ha : zgr p l block regs
  ·rw [zja hc ha]; rfl
  ·obtain ⟨m,q,R⟩ := zfA h hc ha
   rw [R.run];show q.1.regs.length = 11
   rw [R.rgs];exact R.mi.len
 ·rw [zi9 hc]; rfl
theorem zlE {ad : Addr}{n cap i : Nat}(h0 : i < n)(w : World) : (Instr.indexAt 61 (.slice (some ad) n cap) (.int .i64 (i : Int))).run prog w = .ok (.pointer (some (ad.add (i * 6)))) w := by
 go_simp
def TF (b8 b13 : Nat)(e1 e2 : Value)(a1 a2 : Addr)(x : EvD)(v1 v2 : Value)(w : World) : Prop := w.cell? ⟨b8,11,none⟩ = some e1 ∧ w.cell? ⟨b13,11,none⟩ = some e2 ∧ (∀ j u,(evC (x,v1))[j]? = some u → w.cell? (a1.add j) = some u) ∧ (∀ j u,(evC (x,v2))[j]? = some u → w.cell? (a2.add j) = some u) ∧ zjd w w.heap.size v1 x.args ∧ zjd w w.heap.size v2 x.args ∧ b8 < w.heap.size ∧ b13 < w.heap.size ∧ a1.block < w.heap.size ∧ a2.block < w.heap.size
end
end Go.Proofs.YtepagfkkjlbipaaGreat
