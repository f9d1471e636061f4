/-
  latheref04.Run: a program's blocks. Conditions: those written in each statement.
-/
import Derived.Test.YtepagfkkjlbipaaGreatBn
import Derived.Test.YtepagfkkjlbipaaGreatBm
set_option linter.unusedVariables false
set_option linter.unusedSimpArgs false
set_option maxHeartbeats 64000000
set_option maxRecDepth 100000
namespace Go.Proofs.YtepagfkkjlbipaaGreat
open Go.RowKit
open Tryz
def zhq (x : BD) : Int × Int := (x.frm,x.upto)
theorem zmH {l : List BD}{B : Nat → Bool}{n i : Nat}(h0 : B 0 = true)(h : l.map zhq = zcS B n)(hi : i < n) : ofK l i = some (ofT B i) := by
 obtain ⟨f,t,h1,h2,h3,_⟩ := zta h0 i n hi;have I := zcs h0 n (by omega);have hat : ∀ j y,l[j]? = some y → (zcS B n)[j]? = some (zhq y) := fun j y hy => by rw [← h,ztw,hy]; rfl
 have hlt := (ztt.1 h1).1;rw [← h,List.length_map] at hlt;have hx := ztq hlt;have he := hat _ _ hx;rw [h1] at he;have he := Option.some.inj he;unfold zhq at he;injection he with e1 e2
 refine zpw hx (by unfold zkF; rw [← e1,← e2]; simp; omega) fun j y hj hy => ?_
 have := zoy I (hat j y hy) h1 hj;unfold zhq at this;dsimp only at this;unfold zkF;rw [zuj]
 right;simp;omega
theorem zkR (l : List ID) : (zeX l).map zhq = zcS (za3 l) l.length := by
 refine List.ext_getElem? fun i => ?_
 rw [ztw];unfold zeX;rw [List.getElem?_mapIdx]
 cases (zcS (za3 l) l.length)[i]? with
 | none => rfl
 | some p => rfl
theorem zmI (T : List (Int × Int)) : (T.map pr0).map (fun p => zhq p.1) = T := by
 rw [List.map_map]
 conv => rhs; rw [← List.map_id T]
 rfl
theorem zmJ {l : List ID}{T : List (Int × Int)}{q1 : List (BD × Value)}{b : Nat}(hT : zcS (za3 l) l.length = T)(hq : q1.map (·.1) = (zeX l).take b) : ((q1 ++ (T.drop b).map pr0).map (·.1)).map zhq = zcS (za3 l) l.length := by
 rw [List.map_append,List.map_append,hq,List.map_take,zkR,hT,List.map_map];have := zmI (T.drop b);rw [show (zhq ∘ fun p : BD × Value => p.1) = (fun p : BD × Value => zhq p.1) from rfl,this,List.take_append_drop]
theorem zrP {l : List ID}{T : List (Int × Int)}{q1 : List (BD × Value)}{b : Nat}(hT : zcS (za3 l) l.length = T)(hq : q1.map (·.1) = (zeX l).take b)(h1 : 0 < l.length)(hn : l.length ≤ 64)(hok : ∀ (j : Nat) (x : ID),l[j]? = some x → zdI l.length j x = true) :
  ∀ x ∈ (q1 ++ (T.drop b).map pr0).map (·.1),x.wf ∧ (∀ y ∈ x.next,I64 y) ∧ x.next.length ≤ 2 := by
 intro x hx;rw [List.map_append,hq] at hx
 rcases List.mem_append.1 hx with h | h
 ·exact ziL h1 hn hok x (zuk h)
 ·obtain ⟨p,hp,rfl⟩ := List.mem_map.1 h
  obtain ⟨y,hy,rfl⟩ := List.mem_map.1 hp;have I := zcs (zbo l) l.length h1;rw [hT] at I;obtain ⟨j,hj,e⟩ := zue (List.mem_of_mem_drop hy);have hlt := I.lt j y (by rw [← e]; exact ztq hj);exact ⟨⟨by unfold pr0 I64; dsimp only; omega,by unfold pr0 I64; dsimp only; omega⟩,fun z hz => by simp [pr0] at hz,by simp [pr0]⟩
theorem zrQ {W : World}{g b : Nat}{T : List (Int × Int)}{q1 : List (BD × Value)}(h : DnP W g q1) : DnP W g (q1 ++ (T.drop b).map pr0) := by
 intro p hp
 rcases List.mem_append.1 hp with h1 | h1
 ·exact h p h1
 ·obtain ⟨y,_,rfl⟩ := List.mem_map.1 h1
  exact ⟨rfl,.inl ⟨rfl,rfl⟩⟩
theorem EnF.at_ {c : Int}{A : Option Addr}{n cap : Nat}{l : List ID}{w W : World}(h : EnF c A n cap l w W) : zcJ W W.heap.size A n l := ⟨h.ins.1,h.ins.2.1,h.ins.2.2.more h.below.size⟩
theorem zoH (c : Int)(A : Option Addr)(n cap : Nat)(l : List ID)(w : World)(hh : zcJ w w.heap.size A n l)(hc : n ≤ cap)(hm : n < 9223372036854775808) :
  Calls prog 8 #[.agg #[.int .i64 c,.slice A n cap]] w (RnP c l w) := by
 have HL := Hd hh.1
 have HE := Hd (EnF.new (c := c) (cap := cap) hh)
 clear hh;go_enter func8,ntmps8;go_wp2_with fail
 refine (zkA c A n cap l _ HE.out.at_ hc hm).mono ?_;rintro e w1 ⟨rfl,hb⟩;replace HE := Hd (HE.out.step hb)
 clear hb;obtain ⟨er,her⟩ : ∃ v,(zdj c l).2 = v := ⟨_,rfl⟩;rw [her];have HER := Hd her
 clear her
 by_cases he : er = 0
 ·subst he
  obtain ⟨_,_,hn1,hn64,hok,_,_⟩ := zg1 HER.out;rw [HL.out] at hn1 hn64 hok;have HOK := Hd hok
  have HR := Hd (show ziM c l = zeX l by unfold ziM; rw [HER.out]; rfl)
  clear hok;obtain ⟨iT,hiT,hzT,hsT,hbT⟩ := info_parts infT;have IT := Hd (ztp hiT (ztp hzT (ztp hsT hbT)))
  obtain ⟨iB,hiB,hzB,hsB,hbB⟩ := info_parts zrB;have IB := Hd (ztp hiB (ztp hzB (ztp hsB hbB)))
  clear hiT hzT hsT hbT hiB hzB hsB hbB;go_wp2_with fail
  go_loopw [6,7] (fun lv i wq => ∃ k : Nat,k ≤ n ∧ i = .int .i64 k ∧ EnF c A n cap l w wq ∧ wq.ownsRow (w.heap.size + 1) 44 3 lv (zcS (za3 l) k).length (zhW (zcS (za3 l) k))) (fun _ i _ => n - (intOf i).toNat)
  case atStart => exact ⟨0,by omega,rfl,HE.out,⟨rfl,.inl ⟨rfl,rfl⟩⟩⟩
  case round =>
   obtain ⟨k,hk,rfl,he,hown⟩ := hrel;clear HE;have HE := Hd he
   have HOW := Hd hown
   have hszr := he.lt;have c0 := he.box0;have c1 := he.box1;clear he hown
   by_cases hlt : k < n
   ·have hbl : (zcS (za3 l) k).length ≤ k := by
     rcases zt9 k with h | h
     ·subst h; exact ztn _
     ·exact (zcs (zbo l) k h).le
    go_wp2_with fail
    refine (zkQ c A n cap l k _ HE.out.at_ hlt hm).mono ?_;rintro e w5 ⟨rfl,hb⟩;have hgr := za4 hb none;have HE5 := Hd (HE.out.step hb)
    have HOW5 := Hd (HOW.out.kept hgr (by cases u6.ownBlock <;> simp))
    have hsz5 := HE5.out.lt;clear hb hgr HE HOW c0 c1
    cases hB : za3 l k
    ·have hpre : zbU (za3 l) k = zcS (za3 l) k := by unfold zbU; rw [hB]; rfl
     have hk0 : 0 < k := by
      rcases zt9 k with h | h
      ·subst h; rw [zbo] at hB; cases hB
      ·exact h
     have hbn := (zcs (zbo l) k hk0).ne;obtain ⟨q,hpq⟩ : ∃ q,(zbU (za3 l) k).length = q + 1 := ⟨(zbU (za3 l) k).length - 1,by rw [hpre]; omega⟩;have HOQ := HOW5.out;rw [← hpre,hpq] at HOQ;replace HOQ := Hd HOQ
     have hql : q + 1 ≤ k := by rw [hpre] at hpq; omega
     clear hB hpre hk0 hbn HOW5 hbl;go_upto_region 10 with fail
     have HE8 := Hd HE5.out
     obtain ⟨w8,rfl⟩ : ∃ v : World,v = w5 := ⟨_,rfl⟩;obtain ⟨g,capq,rfl,hqc,hg0,hg1⟩ := (zbr.of_own HOQ.out).form (by omega);have HG0 := Hd hg0
     clear hg0 hg1;have hq1 : q + 1 ≤ n := by omega
     obtain ⟨t0,ht0⟩ : ∃ t0,(zhW (zbU (za3 l) k))[q * 3 + 1]? = some t0 := ⟨(zhW (zbU (za3 l) k))[q * 3 + 1]'(by rw [zd3]; omega),ztq _⟩;have cq : w8.cell? ⟨g,q * 3 + 1,none⟩ = some t0 := ((zbr.of_own HOQ.out).cell _ (by omega)).trans ht0;have fq := (zbr.of_own HOQ.out).frozen (q * 3 + 1);clear ht0;go_wp2;have hst := HOQ.out.stored (q * 3 + 1) (.int .i64 ((k : Int) + 1));have hrs := zfv (q := zbU (za3 l) k) (by omega) ((k : Int) + 1);rw [hpq,Nat.add_sub_cancel,← zcB] at hrs;rw [hrs] at hst;have HPL := Hd (zfY (B := za3 l) k (by omega))
     have HST := Hd hst
     have HQL := Hd hpq
     clear hst hrs cq fq hpq;go_roundw
     case measure => simp [intOf]; omega
     case rel =>
      refine ⟨k + 1,by omega,by go_num,HE8.out.grown HST.out.2 (fun r e => by injection e with e; have := HG0.out; omega),?_⟩;rw [HPL.out,HQL.out];exact HST.out.1
    ·have hpre : zbU (za3 l) k = zcS (za3 l) k ++ [((k : Int),0)] := by unfold zbU; rw [hB]; rfl
     have HPRE := Hd hpre
     obtain ⟨q,hq⟩ : ∃ q,(zcS (za3 l) k).length = q := ⟨_,rfl⟩;have hpq : (zbU (za3 l) k).length = q + 1 := by rw [hpre,List.length_append,hq]; rfl
     rw [hq] at HOW5 hbl;clear hpre hq hB;have hbd := fun (w : World) => zjG (k : Int) w
     go_upto_region 10 with (first
      | (refine zcq rfl rfl 38 44 (.tmp 34) (.tmp 32) (.tmp 35) rfl rfl (w.heap.size + 1) 3 40 iB _ (.agg #[.int .i64 (k : Int),.int .i64 0,.slice none 0 0]) u6 [.int .i64 (k : Int),.int .i64 0,.slice none 0 0] _ q underlying38 IB.out.1 IB.out.2.1 IB.out.2.2.1 IB.out.2.2.2 rfl (by omega) (by omega) (by rfl) rfl rfl (zjH _ _) HOW5.out (by omega) (by unfold maxLen; omega) (by omega) (by rfl) (by rfl) ?_
         intro v8 w8 g8 G8 O8 B8 P8;rw [← zfu,← HPRE.out] at O8;have HOQ := Hd O8
         have HE8 := Hd (HE5.out.grown P8 (fun g e => ((zbr.of_own HOW5.out).ge g e).1))
         clear O8 B8 P8))
     have hql : q ≤ k := hbl;clear HOW5 HPRE hbl hbd;obtain ⟨g,capq,rfl,hqc,hg0,hg1⟩ := (zbr.of_own HOQ.out).form (by omega);have HG0 := Hd hg0
     clear hg0 hg1;have hq1 : q + 1 ≤ n := by omega
     obtain ⟨t0,ht0⟩ : ∃ t0,(zhW (zbU (za3 l) k))[q * 3 + 1]? = some t0 := ⟨(zhW (zbU (za3 l) k))[q * 3 + 1]'(by rw [zd3]; omega),ztq _⟩;have cq : w8.cell? ⟨g,q * 3 + 1,none⟩ = some t0 := ((zbr.of_own HOQ.out).cell _ (by omega)).trans ht0;have fq := (zbr.of_own HOQ.out).frozen (q * 3 + 1);clear ht0;go_wp2;have hst := HOQ.out.stored (q * 3 + 1) (.int .i64 ((k : Int) + 1));have hrs := zfv (q := zbU (za3 l) k) (by omega) ((k : Int) + 1);rw [hpq,Nat.add_sub_cancel,← zcB] at hrs;rw [hrs] at hst;have HPL := Hd (zfY (B := za3 l) k (by omega))
     have HST := Hd hst
     have HQL := Hd hpq
     clear hst hrs cq fq hpq;go_roundw
     case measure => simp [intOf]; omega
     case rel =>
      refine ⟨k + 1,by omega,by go_num,HE8.out.grown HST.out.2 (fun r e => by injection e with e; have := HG0.out; omega),?_⟩;rw [HPL.out,HQL.out];exact HST.out.1
   ·obtain rfl : k = n := by omega
    have HBI := Hd (zcs (zbo l) k (by omega))
    have hbm := HBI.out.ne;have hbm2 := HBI.out.le;obtain ⟨T,hT⟩ : ∃ v,zcS (za3 l) k = v := ⟨_,rfl⟩;have HTL := Hd (show zcS (za3 l) l.length = T by rw [HL.out,hT])
    rw [hT] at HBI HOW hbm hbm2;obtain ⟨m,hmT⟩ : ∃ v,T.length = v := ⟨_,rfl⟩;rw [hmT] at HOW hbm hbm2;have HMT := Hd hmT
    obtain ⟨g,capL,rfl,hmc,hg0,hg1⟩ := (zbr.of_own HOW.out).form hbm;have HRW := Hd (zbr.of_own HOW.out)
    obtain ⟨n,rfl⟩ : ∃ v : Nat,v = k := ⟨_,rfl⟩;clear hT hmT HOW hk hlt;go_wp2_with fail
    clear c0 c1;go_loopw [8] (fun iv wq => ∃ (b : Nat) (q1 : List (BD × Value)),b ≤ m ∧ iv = .int .i64 b ∧ EnF c A n cap l w wq ∧ q1.length = b ∧ Hid (q1.map (·.1) = (zeX l).take b) ∧ DnP wq g q1 ∧ zbr wq (w.heap.size + 1) 44 3 (.slice (some ⟨g,0,none⟩) m capL) m ((q1 ++ (T.drop b).map pr0).flatMap bkC)) (fun iv _ => m - (intOf iv).toNat)
    case atStart => exact ⟨0,[],by omega,rfl,HE.out,rfl,by simp [Hd],(fun p hp => by simp at hp),HRW.out⟩
    case round =>
     obtain ⟨b,q1,hbk,rfl,he,hql,HQF,hdn,hrow⟩ := hrel;clear HE HRW;have HE := Hd he
     have HQL := Hd hql
     have HDN := Hd hdn
     have hszr := he.lt
     by_cases hlb : b < m
     ·obtain ⟨⟨f,t⟩,hft⟩ : ∃ p,T[b]? = some p := ⟨T[b]'(by have := HMT.out; omega),ztq _⟩
      have hlt3 := HBI.out.lt b _ hft;dsimp only at hlt3;obtain ⟨i,hi⟩ : ∃ i : Nat,t = (i : Int) + 1 := ⟨(t - 1).toNat,by omega⟩;subst hi;have hin : i < n := by omega
      have hdr : T.drop b = (f,(i : Int) + 1) :: T.drop (b + 1) := by
       obtain ⟨h1,h2⟩ := ztt.1 hft;rw [← h2];exact List.drop_eq_getElem_cons h1
      rw [hdr,ztz] at hrow;obtain ⟨R,hR⟩ : ∃ R,(T.drop (b + 1)).map pr0 = R := ⟨_,rfl⟩;rw [hR] at hrow;have HRR := Hd hR
      rw [show pr0 (f,(i : Int) + 1) = (BD.mk f ((i : Int) + 1) [],.slice none 0 0) from rfl] at hrow;have HRW := Hd hrow
      have HMID := Hd (show (T.drop b).map pr0 = (BD.mk f ((i : Int) + 1) [],.slice none 0 0) :: R by rw [hdr,ztz,hR]; rfl)
      have c21 : wr.cell? ⟨g,b * 3 + 1,none⟩ = some (.int .i64 ((i : Int) + 1)) := (hrow.cell _ (by omega)).trans (by rw [← hql]; exact zcI 1 _ rfl);have cb1 := he.box1;obtain ⟨ad,x,rfl,hab,hx,hxw,hcell⟩ := he.ins.at_ hin;have HX := Hd hx
      have HC := Hd hcell
      have HOX := Hd (HOK.out i x hx)
      have HBX := Hd (show (zeX l)[b]? = some ⟨f,(i : Int) + 1,zaV (za3 l) b i x⟩ by rw [ziJ (p := (f,(i : Int) + 1)) (by rw [HTL.out]; exact hft),ziK hx])
      clear he hql hdn hft hdr hR hrow hx hxw hcell hlt3;go_wp2_with (first
       | (refine zae rfl 47 (.tmp 62) rfl (ad.add (i * 9)) (by rfl) x.cells _ HC.out underlying47 rfl zhY ?_)
       | fail)
      refine (zec i x _).mono ?_;rintro e w5 ⟨rfl,hb⟩;have hgr := za4 hb none;have HEz := Hd (HE.out.step hb)
      have HRz := Hd (HRW.out.below hb)
      have HDz := Hd (HDN.out.grown hgr (fun r e => by cases e))
      clear hb hgr c21 cb1 HE HRW HDN HC
      cases ht : zcE i x
      ·have HSz := Hd (⟨rfl,.inl ⟨rfl,rfl⟩⟩ : w5.ownsRow (g + 1) 3 1 (.slice none 0 0) 0 [])
       obtain ⟨nx1,hnx1⟩ : ∃ v : List Int,([] : List Int) = v := ⟨_,rfl⟩;have HNT := Hd (show (if zcE i x then [(ofT (za3 l) (zdE i x).toNat : Int)] else []) = nx1 by rw [ht,← hnx1]; rfl)
       replace HSz := Hd (show w5.ownsRow (g + 1) 3 1 (.slice none 0 0) nx1.length (nx1.map (Value.int .i64)) by rw [← hnx1]; exact HSz.out)
       have HN1 := Hd (show nx1.length ≤ 1 by rw [← hnx1]; simp)
       have HSD := Hd (fun (p : BD × Value) (hp : p ∈ q1) => (by cases p.2.ownBlock <;> simp [Value.ownBlock] : p.2.ownBlock = none ∨ p.2.ownBlock ≠ (Value.slice none 0 0).ownBlock))
       have c22 : w5.cell? ⟨g,b * 3 + 2,none⟩ = some (.slice none 0 0) := (HRz.out.cell _ (by omega)).trans (by rw [← HQL.out]; exact zcI 2 _ rfl);obtain ⟨wz,rfl⟩ : ∃ v : World,v = w5 := ⟨_,rfl⟩;clear ht hnx1;have HNX0 := Hd (show zaV (za3 l) b i x = nx1 ++ (if x.kind = 4 ∨ x.kind = 6 then [] else [(b : Int) + 1]) by unfold zaV; rw [HNT.out])
       have cb1 := HEz.out.box1;obtain ⟨kd,hkd⟩ : ∃ v,x.kind = v := ⟨_,rfl⟩;have ck : wz.cell? (ad.add (i * 9)) = some (.int .i8 kd) := by
        obtain ⟨ad',x',hae,_,hx',_,hc'⟩ := HEz.out.ins.at_ hin;injection hae with hae
        subst hae;have := HX.out;rw [hx'] at this;obtain rfl := Option.some.inj this;have h0 := hc' 0 _ rfl;rw [← hkd];rw [za0] at h0;exact h0
       rw [hkd] at HNX0;clear hkd
       cases h4 : (kd != 4)
       ·have HNX := Hd (show zaV (za3 l) b i x = nx1 by rw [HNX0.out,if_pos (by simp at h4; omega),ztE])
        go_wp2_with fail
        go_roundw
        case measure => simp [intOf]; omega
        case rel =>
         refine ⟨b + 1,q1 ++ [(BD.mk f ((i : Int) + 1) (zaV (za3 l) b i x),.slice none 0 0)],by omega,by go_num,HEz.out,by rw [List.length_append,HQL.out]; rfl,?_,?_,?_⟩
         ·rw [List.map_append,HQF.out,ztF,HBX.out]
          rfl
         ·intro p hp
          rcases List.mem_append.1 hp with h | h
          ·exact HDz.out p h
          ·simp at h
           subst h;dsimp only;rw [HNX.out];exact HSz.out
         ·rw [← zb6,HRR.out]
          exact HRz.out
       ·cases h6 : (kd != 6)
        ·have HNX := Hd (show zaV (za3 l) b i x = nx1 by rw [HNX0.out,if_pos (by simp at h6; omega),ztE])
         go_wp2_with fail
         go_roundw
         case measure => simp [intOf]; omega
         case rel =>
          refine ⟨b + 1,q1 ++ [(BD.mk f ((i : Int) + 1) (zaV (za3 l) b i x),.slice none 0 0)],by omega,by go_num,HEz.out,by rw [List.length_append,HQL.out]; rfl,?_,?_,?_⟩
          ·rw [List.map_append,HQF.out,ztF,HBX.out]
           rfl
          ·intro p hp
           rcases List.mem_append.1 hp with h | h
           ·exact HDz.out p h
           ·simp at h
            subst h;dsimp only;rw [HNX.out];exact HSz.out
          ·rw [← zb6,HRR.out]
           exact HRz.out
        ·have HNX := Hd (show zaV (za3 l) b i x = nx1 ++ [(b : Int) + 1] by rw [HNX0.out,if_neg (by simp at h4 h6; omega)])
         have hszz := HEz.out.lt;have hgz := HRz.out.ge g rfl;have hgz2 : g < wz.heap.size := hgz.2;go_wp2_with (first
          | (refine zcq rfl rfl 28 3 (.tmp 110) (.tmp 108) (.tmp 111) rfl rfl (g + 1) 1 8 iT _ (.int .i64 ((b : Int) + 1)) (.slice none 0 0) [.int .i64 ((b : Int) + 1)] _ nx1.length underlying28 IT.out.1 IT.out.2.1 IT.out.2.2.1 IT.out.2.2.2 rfl (by omega) (by omega) (by rfl) rfl rfl zdD HSz.out (by omega) (by have := HN1.out; unfold maxLen; omega) (by have := HN1.out; omega) (by rfl) (by rfl) ?_
             intro v8 w8 g8 G8 O8 B8 P8;have hP8 : ∀ r,(Value.slice none 0 0).ownBlock = some r → g + 1 ≤ r := fun r e => ((zbr.of_own HSz.out).ge r e).1
             obtain ⟨g9,cap9,rfl,_,hg9,_⟩ := (zbr.of_own O8).form (by omega);have HO8 := Hd O8
             have HE8 := Hd (HEz.out.grown P8 (fun r e => by have := hP8 r e; omega))
             have HR8 := Hd (HRz.out.grown P8 (.inr (fun e => by have := hP8 g e.symm; omega)))
             have HDN8 := Hd (fun p hp => ((HDz.out p hp).kept P8 (HSD.out p hp) : w8.ownsRow (g + 1) 3 1 p.2 p.1.next.length (p.1.next.map (Value.int .i64))))
             have c28 : w8.cell? ⟨g,b * 3 + 2,none⟩ = some (.slice none 0 0) := (HR8.out.cell _ (by omega)).trans (by rw [← HQL.out]; exact zcI 2 _ rfl);have f28 := HR8.out.frozen (b * 3 + 2);have hg9' : g < g9 := by omega
             clear O8 B8 P8 G8))
         have hst := HR8.out.stored (b * 3 + 2) (.slice (some ⟨g9,0,none⟩) (nx1.length + 1) cap9);rw [show ((q1 ++ (BD.mk f ((i : Int) + 1) [],.slice none 0 0) :: R).flatMap bkC).set (b * 3 + 2) (.slice (some ⟨g9,0,none⟩) (nx1.length + 1) cap9) = (q1 ++ (BD.mk f ((i : Int) + 1) [],.slice (some ⟨g9,0,none⟩) (nx1.length + 1) cap9) :: R).flatMap bkC by rw [← HQL.out]; exact zgI] at hst;have HST := Hd hst
         clear hst c28 f28;go_roundw
         case measure => simp [intOf]; omega
         case rel =>
          refine ⟨b + 1,q1 ++ [(BD.mk f ((i : Int) + 1) (zaV (za3 l) b i x),.slice (some ⟨g9,0,none⟩) (nx1.length + 1) cap9)],by omega,by go_num,HE8.out.grown HST.out.2 (fun r e => by injection e with e; omega),by rw [List.length_append,HQL.out]; rfl,?_,?_,?_⟩
          ·rw [List.map_append,HQF.out,ztF,HBX.out]
           rfl
          ·intro p hp
           rcases List.mem_append.1 hp with h | h
           ·exact (HDN8.out p h).kept HST.out.2 (zeY (HDN8.out p h) (ztI g))
           ·simp at h
            subst h;dsimp only;rw [HNX.out];exact (by rw [List.length_append,List.map_append]; exact HO8.out.kept HST.out.2 (.inr (fun e => by have e' : some g9 = some g := e; injection e' with e'; omega)))
          ·rw [← zb6,HRR.out]
           exact HST.out.1
      ·obtain ⟨ht0,ht1⟩ := zfX HOX.out ht
       obtain ⟨tt,htt⟩ := Int.eq_ofNat_of_zero_le ht0;have htn : tt < n := by omega
       have HNT0 := Hd (show (if zcE i x then [(ofT (za3 l) (zdE i x).toNat : Int)] else []) = [(ofT (za3 l) tt : Int)] by rw [ht,htt,if_pos rfl,ztx])
       rw [htt];have HTT := Hd htt
       have c22 : w5.cell? ⟨g,b * 3 + 2,none⟩ = some (.slice none 0 0) := (HRz.out.cell _ (by omega)).trans (by rw [← HQL.out]; exact zcI 2 _ rfl);have f22 := HRz.out.frozen (b * 3 + 2);have hg5 := (HRz.out.ge g rfl).2;have hbks : zje w5 w5.heap.size (some ⟨g,0,none⟩) m ((q1 ++ (T.drop b).map pr0).map (·.1)) := ((zrQ (T := T) (b := b) HDz.out).at_ rfl (by rw [List.length_append,List.length_map,List.length_drop,HQL.out,HMT.out]; omega) (by rw [HMID.out]; exact HRz.out) (zrP HTL.out HQF.out (by rw [HL.out]; omega) (by rw [HL.out]; exact hn64) (by rw [HL.out]; exact HOK.out)) (lo := 0) (Nat.zero_le _) (Nat.zero_le _)).all;have HBKS := Hd hbks
       have hofk := zmH (zbo l) (zmJ HTL.out HQF.out) (i := tt) (by rw [HL.out]; exact htn);obtain ⟨ov,hov⟩ : ∃ v : Int,(ofT (za3 l) tt : Int) = v := ⟨_,rfl⟩;have HOV := Hd (show ofN ((q1 ++ (T.drop b).map pr0).map (·.1)) tt = ov by unfold ofN; rw [hofk]; exact hov)
       rw [hov] at HNT0;clear ht ht0 ht1 htt hov hbks hofk;go_wp2_with fail
       refine (zql (some ⟨g,0,none⟩) m capL w5.heap.size _ tt _ HBKS.out (by omega)).mono ?_;rintro e w5' ⟨rfl,rfl⟩;rw [HOV.out];clear HBKS;go_upto_region 19 with (first
        | (refine zgx rfl rfl 28 3 (.tmp 81) (.tmp 80) (.tmp 82) rfl rfl (g + 1) 1 8 iT _ (.int .i64 ov) (.slice none 0 0) [.int .i64 ov] [] 0 underlying28 IT.out.1 IT.out.2.1 IT.out.2.2.1 IT.out.2.2.2 rfl (by omega) (by omega) (by rfl) rfl rfl zdD ⟨rfl,.inl ⟨rfl,rfl⟩⟩ (by omega) (by unfold maxLen; omega) (by omega) (by rfl) (by rfl) ?_
           intro v7 w7 g8 G8 O7 B7 P7 Q7;obtain ⟨g7,cap7,rfl,_,hg7,_⟩ := (zbr.of_own O7).form (by omega);have hb7 : Below w5.heap.size w5 w7 := (Below.refl w5.heap.size w5).grown P7 (ztn _) (fun r e => by simp [Value.ownBlock] at e);have hg7' : w5.heap.size ≤ g7 := by
            rcases Q7 with h | ⟨r,h,h'⟩
            ·simp [Value.ownBlock] at h
            ·have h2 : some g7 = some r := h
             injection h2 with h2
             omega
           have HO7 := Hd O7
           have HB7 := Hd hb7
           have c27 : w7.cell? ⟨g,b * 3 + 2,none⟩ = some (.slice none 0 0) := (hb7.cell (p := ⟨g,b * 3 + 2,none⟩) hg5).trans c22;have f27 : w7.frozen? ⟨g,b * 3 + 2,none⟩ = false := (hb7.frozen (p := ⟨g,b * 3 + 2,none⟩) hg5).trans f22;clear O7 G8 B7 P7 Q7 hb7))
       all_goals
        have hst := (HRz.out.below HB7.out).stored (b * 3 + 2) (.slice (some ⟨g7,0,none⟩) 1 cap7);rw [show ((q1 ++ (BD.mk f ((i : Int) + 1) [],.slice none 0 0) :: R).flatMap bkC).set (b * 3 + 2) (.slice (some ⟨g7,0,none⟩) 1 cap7) = (q1 ++ (BD.mk f ((i : Int) + 1) [],.slice (some ⟨g7,0,none⟩) 1 cap7) :: R).flatMap bkC by rw [← HQL.out]; exact zgI] at hst;have HST := Hd hst
        clear hst;have HEy := Hd ((HEz.out.step HB7.out).grown HST.out.2 (fun r e => by injection e with e; omega))
        have HDy := Hd (fun p hp => (((HDz.out p hp).kept (za4 HB7.out none) (by cases p.2.ownBlock <;> simp)).kept HST.out.2 (zeY (HDz.out p hp) (ztI g)) : (w7.setCell ⟨g,b * 3 + 2,none⟩ (.slice (some ⟨g7,0,none⟩) 1 cap7)).ownsRow (g + 1) 3 1 p.2 p.1.next.length (p.1.next.map (Value.int .i64))))
        have HSy := Hd (HO7.out.kept HST.out.2 (.inr (fun e => by have e' : some g7 = some g := e; injection e' with e'; omega)))
        have HRy := Hd HST.out.1
        have HSD := Hd (fun (p : BD × Value) (hp : p ∈ q1) => (.inr (fun e => by
         have e' : p.2.ownBlock = some g7 := e;have := (zbr.of_own (HDz.out p hp)).ge g7 e';omega) : p.2.ownBlock = none ∨ p.2.ownBlock ≠ (Value.slice (some ⟨g7,0,none⟩) 1 cap7).ownBlock))
        obtain ⟨nx1,hnx1⟩ : ∃ v : List Int,[ov] = v := ⟨_,rfl⟩;have HNT := Hd (HNT0.out.trans hnx1)
        have HN1 := Hd (show nx1.length ≤ 1 by rw [← hnx1]; simp)
        have HSz := Hd (show (w7.setCell ⟨g,b * 3 + 2,none⟩ (.slice (some ⟨g7,0,none⟩) 1 cap7)).ownsRow (g + 1) 3 1 (.slice (some ⟨g7,0,none⟩) 1 cap7) nx1.length (nx1.map (Value.int .i64)) by rw [← hnx1]; exact HSy.out)
        clear HRz HEz HDz HSy HST c22 f22 c27 f27 hnx1 HO7 HB7 HNT0;generalize w7.setCell ⟨g,b * 3 + 2,none⟩ (.slice (some ⟨g7,0,none⟩) 1 cap7) = wz at HEy HDy HRy HSz ⊢;have HEz := Hd HEy.out
        have HDz := Hd HDy.out
        have HRz := Hd HRy.out
        have c22 : wz.cell? ⟨g,b * 3 + 2,none⟩ = some (.slice (some ⟨g7,0,none⟩) 1 cap7) := (HRz.out.cell _ (by omega)).trans (by rw [← HQL.out]; exact zcI 2 _ rfl);clear HEy HDy HRy;have HNX0 := Hd (show zaV (za3 l) b i x = nx1 ++ (if x.kind = 4 ∨ x.kind = 6 then [] else [(b : Int) + 1]) by unfold zaV; rw [HNT.out])
        have cb1 := HEz.out.box1;obtain ⟨kd,hkd⟩ : ∃ v,x.kind = v := ⟨_,rfl⟩;have ck : wz.cell? (ad.add (i * 9)) = some (.int .i8 kd) := by
         obtain ⟨ad',x',hae,_,hx',_,hc'⟩ := HEz.out.ins.at_ hin;injection hae with hae
         subst hae;have := HX.out;rw [hx'] at this;obtain rfl := Option.some.inj this;have h0 := hc' 0 _ rfl;rw [← hkd];rw [za0] at h0;exact h0
        rw [hkd] at HNX0;clear hkd
        cases h4 : (kd != 4)
        ·have HNX := Hd (show zaV (za3 l) b i x = nx1 by rw [HNX0.out,if_pos (by simp at h4; omega),ztE])
         go_wp2_with fail
         go_roundw
         case measure => simp [intOf]; omega
         case rel =>
          refine ⟨b + 1,q1 ++ [(BD.mk f ((i : Int) + 1) (zaV (za3 l) b i x),.slice (some ⟨g7,0,none⟩) 1 cap7)],by omega,by go_num,HEz.out,by rw [List.length_append,HQL.out]; rfl,?_,?_,?_⟩
          ·rw [List.map_append,HQF.out,ztF,HBX.out]
           rfl
          ·intro p hp
           rcases List.mem_append.1 hp with h | h
           ·exact HDz.out p h
           ·simp at h
            subst h;dsimp only;rw [HNX.out];exact HSz.out
          ·rw [← zb6,HRR.out]
           exact HRz.out
        ·cases h6 : (kd != 6)
         ·have HNX := Hd (show zaV (za3 l) b i x = nx1 by rw [HNX0.out,if_pos (by simp at h6; omega),ztE])
          go_wp2_with fail
          go_roundw
          case measure => simp [intOf]; omega
          case rel =>
           refine ⟨b + 1,q1 ++ [(BD.mk f ((i : Int) + 1) (zaV (za3 l) b i x),.slice (some ⟨g7,0,none⟩) 1 cap7)],by omega,by go_num,HEz.out,by rw [List.length_append,HQL.out]; rfl,?_,?_,?_⟩
           ·rw [List.map_append,HQF.out,ztF,HBX.out]
            rfl
           ·intro p hp
            rcases List.mem_append.1 hp with h | h
            ·exact HDz.out p h
            ·simp at h
             subst h;dsimp only;rw [HNX.out];exact HSz.out
           ·rw [← zb6,HRR.out]
            exact HRz.out
         ·have HNX := Hd (show zaV (za3 l) b i x = nx1 ++ [(b : Int) + 1] by rw [HNX0.out,if_neg (by simp at h4 h6; omega)])
          have hszz := HEz.out.lt;have hgz := HRz.out.ge g rfl;have hgz2 : g < wz.heap.size := hgz.2;go_wp2_with (first
           | (refine zcq rfl rfl 28 3 (.tmp 110) (.tmp 108) (.tmp 111) rfl rfl (g + 1) 1 8 iT _ (.int .i64 ((b : Int) + 1)) (.slice (some ⟨g7,0,none⟩) 1 cap7) [.int .i64 ((b : Int) + 1)] _ nx1.length underlying28 IT.out.1 IT.out.2.1 IT.out.2.2.1 IT.out.2.2.2 rfl (by omega) (by omega) (by rfl) rfl rfl zdD HSz.out (by omega) (by have := HN1.out; unfold maxLen; omega) (by have := HN1.out; omega) (by rfl) (by rfl) ?_
              intro v8 w8 g8 G8 O8 B8 P8;have hP8 : ∀ r,(Value.slice (some ⟨g7,0,none⟩) 1 cap7).ownBlock = some r → g + 1 ≤ r := fun r e => ((zbr.of_own HSz.out).ge r e).1
              obtain ⟨g9,cap9,rfl,_,hg9,_⟩ := (zbr.of_own O8).form (by omega);have HO8 := Hd O8
              have HE8 := Hd (HEz.out.grown P8 (fun r e => by have := hP8 r e; omega))
              have HR8 := Hd (HRz.out.grown P8 (.inr (fun e => by have := hP8 g e.symm; omega)))
              have HDN8 := Hd (fun p hp => ((HDz.out p hp).kept P8 (HSD.out p hp) : w8.ownsRow (g + 1) 3 1 p.2 p.1.next.length (p.1.next.map (Value.int .i64))))
              have c28 : w8.cell? ⟨g,b * 3 + 2,none⟩ = some (.slice (some ⟨g7,0,none⟩) 1 cap7) := (HR8.out.cell _ (by omega)).trans (by rw [← HQL.out]; exact zcI 2 _ rfl);have f28 := HR8.out.frozen (b * 3 + 2);have hg9' : g < g9 := by omega
              clear O8 B8 P8 G8))
          have hst := HR8.out.stored (b * 3 + 2) (.slice (some ⟨g9,0,none⟩) (nx1.length + 1) cap9);rw [show ((q1 ++ (BD.mk f ((i : Int) + 1) [],.slice (some ⟨g7,0,none⟩) 1 cap7) :: R).flatMap bkC).set (b * 3 + 2) (.slice (some ⟨g9,0,none⟩) (nx1.length + 1) cap9) = (q1 ++ (BD.mk f ((i : Int) + 1) [],.slice (some ⟨g9,0,none⟩) (nx1.length + 1) cap9) :: R).flatMap bkC by rw [← HQL.out]; exact zgI] at hst;have HST := Hd hst
          clear hst c28 f28;go_roundw
          case measure => simp [intOf]; omega
          case rel =>
           refine ⟨b + 1,q1 ++ [(BD.mk f ((i : Int) + 1) (zaV (za3 l) b i x),.slice (some ⟨g9,0,none⟩) (nx1.length + 1) cap9)],by omega,by go_num,HE8.out.grown HST.out.2 (fun r e => by injection e with e; omega),by rw [List.length_append,HQL.out]; rfl,?_,?_,?_⟩
           ·rw [List.map_append,HQF.out,ztF,HBX.out]
            rfl
           ·intro p hp
            rcases List.mem_append.1 hp with h | h
            ·exact (HDN8.out p h).kept HST.out.2 (zeY (HDN8.out p h) (ztI g))
            ·simp at h
             subst h;dsimp only;rw [HNX.out];exact (by rw [List.length_append,List.map_append]; exact HO8.out.kept HST.out.2 (.inr (fun e => by have e' : some g9 = some g := e; injection e' with e'; omega)))
           ·rw [← zb6,HRR.out]
            exact HST.out.1
     ·obtain rfl : b = m := by omega
      have hT : T.drop b = [] := ztV (by rw [HMT.out]; exact ztn _);rw [hT,ztA,ztE] at hrow;have hLB : (zeX l).length = b := by rw [zhi,HTL.out,HMT.out]
      have hqf := HQF.out;rw [ztN (by rw [hLB]; exact ztn _)] at hqf;have HOUT := Hd (hdn.at_ hqf hql hrow (ziL (by rw [HL.out]; omega) (by rw [HL.out]; exact hn64) (by rw [HL.out]; exact HOK.out)) (lo := w.heap.size) (by omega) (by omega))
      have HLB := Hd hLB
      clear he hql hdn hrow hT hLB hqf;go_wp2;go_ret2;unfold RnP;rw [HR.out,HER.out,HLB.out];exact ⟨some ⟨g,0,none⟩,capL,rfl,hmc,HOUT.out,HE.out.below⟩
 ·have be : (er != 0) = true := by simpa using he
  have HNE := Hd he
  clear he;go_wp2;go_ret2;exact zpv HER.out HNE.out HE.out.below
end Go.Proofs.YtepagfkkjlbipaaGreat
