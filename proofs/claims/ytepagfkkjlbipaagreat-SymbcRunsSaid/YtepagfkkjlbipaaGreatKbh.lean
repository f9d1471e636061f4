/-
  Parts of the proof of SymbcRuns. Conditions: those written in each statement.
-/
import Derived.Test.YtepagfkkjlbipaaGreatKbf
import Derived.Test.YtepagfkkjlbipaaGreatKbg
set_option linter.unusedVariables false
set_option linter.unusedSimpArgs false
set_option maxHeartbeats 64000000
set_option maxRecDepth 100000
namespace Go.Proofs.YtepagfkkjlbipaaGreat
open Go.RowKit
open Tryz
section
section
variable {base g : Nat}{F : Nat → Prop}{p : PS}{w : World}
def zrw (base g : Nat)(F : Nat → Prop)(w : World)(r : PS × List Int × Int)(e : Ending)(w' : World) : Prop := e = .returned (.tuple #[.agg (rgC r.2.1).toArray,.int .i64 r.2.2]) ∧ ∃ F',RG base g F w F' r.1 w'
theorem zkD (h : zaO w base F g p)(hbase : base ≤ w.heap.size) : Calls prog 15 #[.pointer (some ⟨g,0,none⟩)] w (zrw base g F w (zcg zbX p)) := by
 have zr := zml;obtain ⟨w1,hw1⟩ : ∃ v,(w.alloc (.cells (rgC zan).toArray 57)).alloc (.cells (rgC zan).toArray 57) = v := ⟨_,rfl⟩;have hb0 : Below w.heap.size w w1 := by rw [← hw1]; exact ((Below.refl _ w).alloc (ztn _) _).alloc (by simp) _
 have HP := Hd (RG.of_below h hb0)
 have HZ := Hd (show Blk w1 w.heap.size 57 (rgC zan).toArray by rw [← hw1]; exact (Blk.new w 57 (rgC zan).toArray).alloc _)
 have HB := Hd (show Blk w1 (w.heap.size + 1) 57 (zgL []).toArray by
  rw [← hw1,zjK];have := Blk.new (w.alloc (.cells (rgC zan).toArray 57)) 57 (rgC zan).toArray
  simpa using this)
 have HNF := Hd (fun b (hb : w.heap.size ≤ b) q => by have := (h.fb b q).2; omega : ∀ b,w.heap.size ≤ b → ¬ F b)
 have HBS := Hd hbase
 obtain ⟨b2,hb2⟩ : ∃ k,w.heap.size = k := ⟨_,rfl⟩;have HBX := Hd hb2
 rw [hb2] at HZ HB HNF;clear h hb0 hbase;go_enter func15,ntmps15;go_wp2_with fail
 clear hw1 hb2;go_loopw [5] (fun i wr => ∃ k : Nat,k ≤ 11 ∧ i = .int .i64 k ∧ Hid ((zbf zbX p k).2.2 = 0) ∧ ∃ F',RG base g F w F' (zbf zbX p k).1 wr ∧ Blk wr (b2 + 1) 57 (zgL (zbf zbX p k).2.1).toArray ∧ Blk wr b2 57 (rgC zan).toArray ∧ ¬ F' (b2 + 1) ∧ ¬ F' b2) (fun i _ => 11 - (intOf i).toNat)
 case atStart => exact ⟨0,by omega,rfl,Hd rfl,F,HP.out,HB.out,HZ.out,HNF.out _ (by omega),HNF.out _ (ztn _)⟩
 case round =>
  obtain ⟨k,hk,rfl,hr0,F',hp,hbk,hz,hnf,hnz⟩ := hrel
  rename World => wr
  clear HP HB HZ HNF;have HRL := Hd (zdR hr0.out)
  have hsz := hp.chg.size
  by_cases hlt : k < 11
  ·have HSU := Hd (zdm (st := zbX) (p := p) hr0.out)
   obtain ⟨r,hr⟩ : ∃ r,zbf zbX p k = r := ⟨_,rfl⟩;rw [hr] at hr0 hp hbk HRL HSU;obtain ⟨s,hs⟩ : ∃ s,zbX r.1 k = s := ⟨_,rfl⟩;have HC := Hd (by
    have h0 : Calls prog 37 #[.pointer (some ⟨g,0,none⟩),.int .i64 (k : Int),.int .i8 64] wr (zc7 base g F' wr (zbX r.1 k)) := zrY (k : Int) 64 (by omega) (by omega) (by unfold I8; omega) _ hp.pool (zto HBS.out hsz);rw [hs] at h0;exact h0)
   rw [hs] at HSU;obtain ⟨rp,rl,re⟩ := r;obtain ⟨sp,sn,se⟩ := s;dsimp only at hr0 hp hbk HRL HSU HC;have HP := Hd hp
   have HB := Hd (ztp hbk hnf)
   have HZ := Hd (ztp hz hnz)
   clear hp hbk hnf hr hs hr0 hsz hz hnz;go_wp2_with fail
   refine HC.out.mono ?_;rintro e w2 ⟨rfl,F2,hp2⟩;have HP2 := Hd (HP.out.trans hp2)
   have HB2 := Hd (hp2.blk HB.out.1 HB.out.2)
   have HZ2 := Hd (hp2.blk HZ.out.1 HZ.out.2)
   clear hp2 HC HP HB HZ;have ck : w2.cell? ⟨b2 + 1,k,none⟩ = some (.int .i64 0) := by
    rw [HB2.out.1.cell k,ztK];have := ziN (l := rl) (by rw [HRL.out]; exact hlt);rw [HRL.out] at this;exact this
   have fk := HB2.out.1.frozen k;have HB3 := Hd (show Blk (w2.setCell ⟨b2 + 1,k,none⟩ (.int .i64 sn)) (b2 + 1) 57 (zgL (rl ++ [sn])).toArray by
    have h1 := HB2.out.1.set_ k (.int .i64 sn);rw [zuc] at h1;have h2 := zhl (l := rl) (by rw [HRL.out]; exact hlt) sn;rw [HRL.out] at h2;rw [h2] at h1;exact h1)
   have HC3 := Hd (zbs (b := b2 + 1) rfl _ rfl : Chg (fun k => k = b2 + 1) w2 (w2.setCell ⟨b2 + 1,k,none⟩ (.int .i64 sn)))
   have HP3 := Hd (HP2.out.own (w2 := w2.setCell ⟨b2 + 1,k,none⟩ (.int .i64 sn)) HB2.out.2 (by have := HBX.out; omega) HC3.out)
   have HZ3 := Hd (HC3.out.blk HZ2.out.1 (by omega))
   cases hse : (se != 0)
   ·go_wp2
    go_roundw
    case measure => simp [intOf]; omega
    case rel =>
     refine ⟨k + 1,by omega,by go_num,?_,F2,?_,?_,HZ3.out,HB2.out.2,HZ2.out.2⟩
     ·rw [HSU.out]; exact Hd (by simpa using hse)
     ·rw [HSU.out]; exact HP3.out
     ·rw [HSU.out]; exact HB3.out
   ·have HV := Hd (show zcg zbX p = (sp,zan,se) by
     have hne : (zbf zbX p (k + 1)).2.2 ≠ 0 := by rw [HSU.out]; simpa using hse
     unfold zcg;dsimp only;rw [zf2 hne (by omega),if_neg hne,HSU.out])
    have qb := zhm;go_wp2_with (first
     | (refine zaa rfl 57 (.tmp 2) (.tmp 20) rfl b2 0 57 _ (rgC zan) (.agg (rgC zan).toArray) HZ2.out.1 (by rfl) (by rfl) rfl zee (by simp [rgC,zan]) (zb9 _) ?_
        intro wq hBq hgq hsq;have HBQ := Hd hBq
        have HPQ := Hd (HP2.out.own HZ2.out.2 (by have := HBX.out; omega) (Chg.of_grown hgq (fun k e => .inl (by injection e with e; exact e.symm))))
        clear hBq hgq hsq)
     | fail)
    have hov : zaM (rgC zan) 0 (rgC zan) = rgC zan := by rfl
    have hx8 := HBQ.out;rw [hov] at hx8;have hrl := zaC (P := prog) wq ⟨b2,0,none⟩ 57 (rgC zan) _ (zak hx8) underlying57 rfl zee;refine bodyPost_ret (v := .tuple #[.agg (rgC zan).toArray,.int .i64 se]) ?_ rfl ⟨by rw [HV.out],F2,by rw [HV.out]; exact HPQ.out⟩;simp [results,results15,Act.put,asAddr,Result.andThen,hrl]
  ·obtain rfl : k = 11 := by omega
   have HV := Hd (show zcg zbX p = zbf zbX p 11 by unfold zcg; dsimp only; rw [if_pos hr0.out])
   have HE0 := Hd (show (zcg zbX p).2.2 = 0 by rw [HV.out]; exact hr0.out)
   have hfull := zf3 HRL.out;rw [hfull] at hbk;rw [← HV.out] at hp hbk HRL;obtain ⟨r,hr⟩ : ∃ r,zcg zbX p = r := ⟨_,rfl⟩;rw [hr] at hp hbk HRL HE0 ⊢;obtain ⟨rp,rl,re⟩ := r;dsimp only at hp hbk HRL HE0;have HP := Hd hp
   have HVR := Hd hr
   have HB := Hd hbk
   have HZ := Hd (ztp hz hnz)
   have HLR := Hd (show (rgC rl).length = 11 by unfold rgC; rw [List.length_map]; exact HRL.out)
   clear hp hbk hr hr0 hfull hsz HV hnf hz hnz;go_wp2_with (first
    | (refine zae rfl 57 (.tmp 4) rfl ⟨b2 + 1,0,none⟩ (by rfl) (rgC rl) _ (zak HB.out) underlying57 rfl (by rw [HLR.out]; exact zee) ?_)
    | (refine zaa rfl 57 (.tmp 2) (.tmp 25) rfl b2 0 57 _ (rgC rl) (.agg (rgC rl).toArray) HZ.out.1 (by rfl) (by rfl) rfl (by rw [HLR.out]; exact zee) (by rw [HLR.out]; simp [rgC,zan]) (zb9 _) ?_
       intro wq hBq hgq hsq;have HBQ := Hd hBq
       have HPQ := Hd (HP.out.own HZ.out.2 (by have := HBX.out; omega) (Chg.of_grown hgq (fun k e => .inl (by injection e with e; exact e.symm))))
       clear hBq hgq hsq)
    | fail)
   have hov : zaM (rgC zan) 0 (rgC rl) = rgC rl := by
    unfold zaM;rw [zt6,List.nil_append,ztO,ztV (by rw [HLR.out]; simp [rgC,zan]),ztE]
   have hx8 := HBQ.out;rw [hov] at hx8;have hrl := zaC (P := prog) wq ⟨b2,0,none⟩ 57 (rgC rl) _ (zak hx8) underlying57 rfl (by rw [HLR.out]; exact zee);refine bodyPost_ret (v := .tuple #[.agg (rgC rl).toArray,.int .i64 0]) ?_ rfl ⟨by rw [HVR.out,HE0.out],_,by rw [HVR.out]; exact HPQ.out⟩;simp [results,results15,Act.put,asAddr,Result.andThen,hrl]
theorem ziG (k : Nat) : (zdG k = 2097152 ∧ ((k : Int) == 1) = true ∧ ((k : Int) == 10) = false) ∨ (zdG k = 3145792 ∧ ((k : Int) == 1) = false ∧ ((k : Int) == 10) = true) ∨ (zdG k = 0 ∧ ((k : Int) == 1) = false ∧ ((k : Int) == 10) = false) := by
 unfold zdG
 by_cases h1 : k = 1
 ·subst h1; exact .inl ⟨rfl,rfl,rfl⟩
 ·by_cases h2 : k = 10
  ·subst h2; exact .inr (.inl ⟨rfl,rfl,rfl⟩)
  ·rw [if_neg h1,if_neg h2]
   exact .inr (.inr ⟨rfl,by simp; omega,by simp; omega⟩)
theorem zkE (h : zaO w base F g p)(hbase : base ≤ w.heap.size) : Calls prog 17 #[.pointer (some ⟨g,0,none⟩)] w (zrw base g F w (zcg zbG p)) := by
 have zr := zml;obtain ⟨w1,hw1⟩ : ∃ v,(w.alloc (.cells (rgC zan).toArray 57)).alloc (.cells (rgC zan).toArray 57) = v := ⟨_,rfl⟩;have hb0 : Below w.heap.size w w1 := by rw [← hw1]; exact ((Below.refl _ w).alloc (ztn _) _).alloc (by simp) _
 have HP := Hd (RG.of_below h hb0)
 have HZ := Hd (show Blk w1 w.heap.size 57 (rgC zan).toArray by rw [← hw1]; exact (Blk.new w 57 (rgC zan).toArray).alloc _)
 have HB := Hd (show Blk w1 (w.heap.size + 1) 57 (zgL []).toArray by
  rw [← hw1,zjK];have := Blk.new (w.alloc (.cells (rgC zan).toArray 57)) 57 (rgC zan).toArray
  simpa using this)
 have HNF := Hd (fun b (hb : w.heap.size ≤ b) q => by have := (h.fb b q).2; omega : ∀ b,w.heap.size ≤ b → ¬ F b)
 have HBS := Hd hbase
 obtain ⟨b2,hb2⟩ : ∃ k,w.heap.size = k := ⟨_,rfl⟩;have HBX := Hd hb2
 rw [hb2] at HZ HB HNF;clear h hb0 hbase;go_enter func17,ntmps17;go_wp2_with fail
 clear hw1 hb2;go_loopw [5] (fun i wr => ∃ k : Nat,k ≤ 11 ∧ i = .int .i64 k ∧ Hid ((zbf zbG p k).2.2 = 0) ∧ ∃ F',RG base g F w F' (zbf zbG p k).1 wr ∧ Blk wr (b2 + 1) 57 (zgL (zbf zbG p k).2.1).toArray ∧ Blk wr b2 57 (rgC zan).toArray ∧ ¬ F' (b2 + 1) ∧ ¬ F' b2) (fun i _ => 11 - (intOf i).toNat)
 case atStart => exact ⟨0,by omega,rfl,Hd rfl,F,HP.out,HB.out,HZ.out,HNF.out _ (by omega),HNF.out _ (ztn _)⟩
 case round =>
  obtain ⟨k,hk,rfl,hr0,F',hp,hbk,hz,hnf,hnz⟩ := hrel
  rename World => wr
  clear HP HB HZ HNF;have HRL := Hd (zdR hr0.out)
  have hsz := hp.chg.size
  by_cases hlt : k < 11
  ·have HSU := Hd (zdm (st := zbG) (p := p) hr0.out)
   obtain ⟨r,hr⟩ : ∃ r,zbf zbG p k = r := ⟨_,rfl⟩;rw [hr] at hr0 hp hbk HRL HSU;obtain ⟨s,hs⟩ : ∃ s,zbG r.1 k = s := ⟨_,rfl⟩
   rcases ziG k with ⟨hv,e1,e10⟩ | ⟨hv,e1,e10⟩ | ⟨hv,e1,e10⟩
   all_goals
    have HC := Hd (by
     have h0 : Calls prog 40 #[.pointer (some ⟨g,0,none⟩),.int .u64 (zdG k)] wr (zc7 base g F' wr (zbG r.1 k)) := zbZ (zdG k) (zf5 k) _ hp.pool (zto HBS.out hsz);rw [hs,hv] at h0;exact h0)
    rw [hs] at HSU;obtain ⟨rp,rl,re⟩ := r;obtain ⟨sp,sn,se⟩ := s;dsimp only at hr0 hp hbk HRL HSU HC;have HP := Hd hp
    have HB := Hd (ztp hbk hnf)
    have HZ := Hd (ztp hz hnz)
    clear hp hbk hnf hr hs hr0 hsz hz hnz;go_wp2_with fail
    refine HC.out.mono ?_;rintro e w2 ⟨rfl,F2,hp2⟩;have HP2 := Hd (HP.out.trans hp2)
    have HB2 := Hd (hp2.blk HB.out.1 HB.out.2)
    have HZ2 := Hd (hp2.blk HZ.out.1 HZ.out.2)
    clear hp2 HC HP HB HZ;have ck : w2.cell? ⟨b2 + 1,k,none⟩ = some (.int .i64 0) := by
     rw [HB2.out.1.cell k,ztK];have := ziN (l := rl) (by rw [HRL.out]; exact hlt);rw [HRL.out] at this;exact this
    have fk := HB2.out.1.frozen k;have HB3 := Hd (show Blk (w2.setCell ⟨b2 + 1,k,none⟩ (.int .i64 sn)) (b2 + 1) 57 (zgL (rl ++ [sn])).toArray by
     have h1 := HB2.out.1.set_ k (.int .i64 sn);rw [zuc] at h1;have h2 := zhl (l := rl) (by rw [HRL.out]; exact hlt) sn;rw [HRL.out] at h2;rw [h2] at h1;exact h1)
    have HC3 := Hd (zbs (b := b2 + 1) rfl _ rfl : Chg (fun k => k = b2 + 1) w2 (w2.setCell ⟨b2 + 1,k,none⟩ (.int .i64 sn)))
    have HP3 := Hd (HP2.out.own (w2 := w2.setCell ⟨b2 + 1,k,none⟩ (.int .i64 sn)) HB2.out.2 (by have := HBX.out; omega) HC3.out)
    have HZ3 := Hd (HC3.out.blk HZ2.out.1 (by omega))
    cases hse : (se != 0)
    ·go_wp2
     go_roundw
     case measure => simp [intOf]; omega
     case rel =>
      refine ⟨k + 1,by omega,by go_num,?_,F2,?_,?_,HZ3.out,HB2.out.2,HZ2.out.2⟩
      ·rw [HSU.out]; exact Hd (by simpa using hse)
      ·rw [HSU.out]; exact HP3.out
      ·rw [HSU.out]; exact HB3.out
    ·have HV := Hd (show zcg zbG p = (sp,zan,se) by
      have hne : (zbf zbG p (k + 1)).2.2 ≠ 0 := by rw [HSU.out]; simpa using hse
      unfold zcg;dsimp only;rw [zf2 hne (by omega),if_neg hne,HSU.out])
     have qb := zhm;go_wp2_with (first
      | (refine zaa rfl 57 (.tmp 2) (.tmp 25) rfl b2 0 57 _ (rgC zan) (.agg (rgC zan).toArray) HZ2.out.1 (by rfl) (by rfl) rfl zee (by simp [rgC,zan]) (zb9 _) ?_
         intro wq hBq hgq hsq;have HBQ := Hd hBq
         have HPQ := Hd (HP2.out.own HZ2.out.2 (by have := HBX.out; omega) (Chg.of_grown hgq (fun k e => .inl (by injection e with e; exact e.symm))))
         clear hBq hgq hsq)
      | fail)
     have hov : zaM (rgC zan) 0 (rgC zan) = rgC zan := by rfl
     have hx8 := HBQ.out;rw [hov] at hx8;have hrl := zaC (P := prog) wq ⟨b2,0,none⟩ 57 (rgC zan) _ (zak hx8) underlying57 rfl zee;refine bodyPost_ret (v := .tuple #[.agg (rgC zan).toArray,.int .i64 se]) ?_ rfl ⟨by rw [HV.out],F2,by rw [HV.out]; exact HPQ.out⟩;simp [results,results17,Act.put,asAddr,Result.andThen,hrl]
  ·obtain rfl : k = 11 := by omega
   have HV := Hd (show zcg zbG p = zbf zbG p 11 by unfold zcg; dsimp only; rw [if_pos hr0.out])
   have HE0 := Hd (show (zcg zbG p).2.2 = 0 by rw [HV.out]; exact hr0.out)
   have hfull := zf3 HRL.out;rw [hfull] at hbk;rw [← HV.out] at hp hbk HRL;obtain ⟨r,hr⟩ : ∃ r,zcg zbG p = r := ⟨_,rfl⟩;rw [hr] at hp hbk HRL HE0 ⊢;obtain ⟨rp,rl,re⟩ := r;dsimp only at hp hbk HRL HE0;have HP := Hd hp
   have HVR := Hd hr
   have HB := Hd hbk
   have HZ := Hd (ztp hz hnz)
   have HLR := Hd (show (rgC rl).length = 11 by unfold rgC; rw [List.length_map]; exact HRL.out)
   clear hp hbk hr hr0 hfull hsz HV hnf hz hnz;go_wp2_with (first
    | (refine zae rfl 57 (.tmp 4) rfl ⟨b2 + 1,0,none⟩ (by rfl) (rgC rl) _ (zak HB.out) underlying57 rfl (by rw [HLR.out]; exact zee) ?_)
    | (refine zaa rfl 57 (.tmp 2) (.tmp 30) rfl b2 0 57 _ (rgC rl) (.agg (rgC rl).toArray) HZ.out.1 (by rfl) (by rfl) rfl (by rw [HLR.out]; exact zee) (by rw [HLR.out]; simp [rgC,zan]) (zb9 _) ?_
       intro wq hBq hgq hsq;have HBQ := Hd hBq
       have HPQ := Hd (HP.out.own HZ.out.2 (by have := HBX.out; omega) (Chg.of_grown hgq (fun k e => .inl (by injection e with e; exact e.symm))))
       clear hBq hgq hsq)
    | fail)
   have hov : zaM (rgC zan) 0 (rgC rl) = rgC rl := by
    unfold zaM;rw [zt6,List.nil_append,ztO,ztV (by rw [HLR.out]; simp [rgC,zan]),ztE]
   have hx8 := HBQ.out;rw [hov] at hx8;have hrl := zaC (P := prog) wq ⟨b2,0,none⟩ 57 (rgC rl) _ (zak hx8) underlying57 rfl (by rw [HLR.out]; exact zee);refine bodyPost_ret (v := .tuple #[.agg (rgC rl).toArray,.int .i64 0]) ?_ rfl ⟨by rw [HVR.out,HE0.out],_,by rw [HVR.out]; exact HPQ.out⟩;simp [results,results17,Act.put,asAddr,Result.andThen,hrl]
end
end
section
structure zhc (B1 g1 : Nat)(F1 : Nat → Prop)(p1 : PS)(B2 g2 : Nat)(F2 : Nat → Prop)(p2 : PS)(W : World) : Prop where
 a : zam W B1 F1 g1 p1
 b : zaO W B2 F2 g2 p2
 ap : ∀ k,F1 k → ¬ F2 k
 h1 : B1 ≤ W.heap.size
 h2 : B2 ≤ W.heap.size
section
variable {B1 g1 B2 g2 : Nat}{F1 F2 F' G G' : Nat → Prop}{p1 p2 p' : PS}{W W' : World}
theorem zhc.lt1 (h : zhc B1 g1 F1 p1 B2 g2 F2 p2 W){k : Nat}(hk : zbg F1 F2 k) : k < W.heap.size := hk.elim (fun q => (h.a.fb k q).2) (fun q => (h.b.fb k q).2)
theorem zhc.left (h : zhc B1 g1 F1 p1 B2 g2 F2 p2 W)(k : PG B1 g1 F1 W F' p' W') : zhc B1 g1 F' p' B2 g2 F2 p2 W' ∧ Go2 (zbg F1 F2) W (zbg F' F2) W' :=
 ⟨⟨k.pool,h.b.chg k.chg (fun b q r => h.ap b r q),fun b q r => (k.new b q).elim (fun s => h.ap b s r) (fun e => by have := (h.b.fb b r).2; omega),zto h.h1 k.chg.size,zto h.h2 k.chg.size⟩,
  k.chg.mono (fun b q => .inl (.inl q)),fun b q => q.elim (fun s => (k.new b s).elim (fun t => .inl (.inl t)) .inr) (fun s => .inl (.inr s))⟩
theorem zhc.right (h : zhc B1 g1 F1 p1 B2 g2 F2 p2 W)(k : RG B2 g2 F2 W F' p' W') : zhc B1 g1 F1 p1 B2 g2 F' p' W' ∧ Go2 (zbg F1 F2) W (zbg F1 F') W' :=
 ⟨⟨h.a.chg k.chg (fun b q r => h.ap b q r),k.pool,fun b q r => (k.new b r).elim (fun s => h.ap b q s) (fun e => by have := (h.a.fb b q).2; omega),zto h.h1 k.chg.size,zto h.h2 k.chg.size⟩,
  k.chg.mono (fun b q => .inl (.inr q)),fun b q => q.elim (fun s => .inl (.inl s)) (fun s => (k.new b s).elim (fun t => .inl (.inr t)) .inr)⟩
theorem zhc.step (h : zhc B1 g1 F1 p1 B2 g2 F2 p2 W)(hb : Below W.heap.size W W') : zhc B1 g1 F1 p1 B2 g2 F2 p2 W' := ⟨h.a.below hb,h.b.below hb,h.ap,zto h.h1 hb.size,zto h.h2 hb.size⟩
theorem zhc.far (h : zhc B1 g1 F1 p1 B2 g2 F2 p2 W){H : Nat → Prop}(hc : Chg H W W')(hH : ∀ k,zbg F1 F2 k → ¬ H k) : zhc B1 g1 F1 p1 B2 g2 F2 p2 W' := ⟨h.a.chg hc (fun b q => hH b (.inl q)),h.b.chg hc (fun b q => hH b (.inr q)),h.ap,zto h.h1 hc.size,zto h.h2 hc.size⟩
end
structure ziH (w : World)(B1 g1 : Nat)(F1 : Nat → Prop)(p1 : PS)(B2 g2 : Nat)(F2 : Nat → Prop)(p2 : PS)(bx gv : Nat)(V : List Int) : Prop where
 two : zhc B1 g1 F1 p1 B2 g2 F2 p2 w
 bx : Blk w bx 56 #[.pointer (some ⟨g1,0,none⟩),.pointer (some ⟨g2,0,none⟩),.slice (some ⟨gv,0,none⟩) 260 260]
 vb : Blk w gv 31 (zgy V).toArray
 vlen : V.length = 260
 vu : ∀ v ∈ V,U64 v
 up : ∀ n v,evP p1.T V n = some v → evP p2.T V n = some v
section
variable {w w' : World}{B1 g1 B2 g2 bx gv : Nat}{F1 F2 : Nat → Prop}{p1 p2 : PS}{V : List Int}
theorem ziH.below (h : ziH w B1 g1 F1 p1 B2 g2 F2 p2 bx gv V)(hb : Below w.heap.size w w') : ziH w' B1 g1 F1 p1 B2 g2 F2 p2 bx gv V :=
 { h with two := h.two.step hb,bx := h.bx.below hb h.bx.lt,vb := h.vb.below hb h.vb.lt }
theorem zdk (h : ziH w B1 g1 F1 p1 B2 g2 F2 p2 bx gv V){n : Int}(hv : ∃ v,evP p1.T V n = some v) :
  Calls prog 53 #[.pointer (some ⟨bx,0,none⟩),.int .i64 n,.int .i64 n] w fun e w' => e = .returned (.bool true) ∧ Below w.heap.size w w' := by
 obtain ⟨v,hv⟩ := hv;have HI := zap h.two.a.wf (zst hv);have HEA := Hd (fun (W : World) (hb : Below w.heap.size w W) => (by
  have := zjs n HI W (h.below hb).two.a (zit (h.below hb).vb h.vlen) h.vlen (ztn _) (by omega) h.vu;rw [hv] at this;exact this : Calls prog 26 #[.pointer (some ⟨g1,0,none⟩),.int .i64 n,.slice (some ⟨gv,0,none⟩) 260 260] W fun e w' => e = .returned (.tuple #[.int .u64 v,.int .i64 0]) ∧ Below W.heap.size W w'))
 have HEB := Hd (fun (W : World) (hb : Below w.heap.size w W) => (by
  have := zsm n V (.slice (some ⟨gv,0,none⟩) 260 260) W (h.below hb).two.b ⟨some ⟨gv,0,none⟩,260,by rw [h.vlen],by rw [h.vlen]; exact ztn _,by rw [h.vlen]; exact zit (h.below hb).vb h.vlen⟩ (by rw [h.vlen]; omega) h.vu;rw [h.up n v hv] at this;exact this : Calls prog 92 #[.pointer (some ⟨g2,0,none⟩),.int .i64 n,.slice (some ⟨gv,0,none⟩) 260 260] W fun e w' => e = .returned (.tuple #[.int .u64 v,.int .i64 0]) ∧ Below W.heap.size W w'))
 have HTF := Hd (fun (Wx : World) (hc : Below w.heap.size w Wx) => (⟨(h.below hc).bx.cell 0,(h.below hc).bx.cell 1,(h.below hc).bx.cell 2⟩ : Wx.cell? ⟨bx,0,none⟩ = some (.pointer (some ⟨g1,0,none⟩)) ∧ Wx.cell? ⟨bx,1,none⟩ = some (.pointer (some ⟨g2,0,none⟩)) ∧ Wx.cell? ⟨bx,2,none⟩ = some (.slice (some ⟨gv,0,none⟩) 260 260)))
 clear h hv HI;go_enter func53,ntmps53;go_upto_region 1 with fail
 refine zac (fun Wx => Wx.cell? ⟨bx,0,none⟩ = some (.pointer (some ⟨g1,0,none⟩)) ∧ Wx.cell? ⟨bx,1,none⟩ = some (.pointer (some ⟨g2,0,none⟩)) ∧ Wx.cell? ⟨bx,2,none⟩ = some (.slice (some ⟨gv,0,none⟩) 260 260)) (fun _ => True) [] (by kernel_rfl) ?_;have HQ := Hd ((Below.refl w.heap.size w).drew)
 have HT := Hd (HTF.out _ HQ.out)
 generalize w.drew = Wd at HQ HT ⊢;refine em 0 (.pointer (some ⟨bx,0,none⟩)) (bT HT) ?_;refine ez 1 ⟨bx,0,none⟩ (bT HT) ?_;refine ef 2 ⟨bx,0,none⟩ ⟨bx,0,none⟩ (bT HT) ?_;refine el false 3 ⟨bx,0,none⟩ (.pointer (some ⟨g1,0,none⟩)) underlying50 (fun w hS => hS.1.1) (bT HT) ?_;refine em 4 (.int .i64 n) (bT HT) ?_;refine em 5 (.pointer (some ⟨bx,0,none⟩)) (bT HT) ?_;refine ez 6 ⟨bx,0,none⟩ (bT HT) ?_;refine ef 7 ⟨bx,0,none⟩ ⟨bx,2,none⟩ (bT HT) ?_;refine el false 8 ⟨bx,2,none⟩ (.slice (some ⟨gv,0,none⟩) 260 260) underlying26 (fun w hS => hS.1.2.2) (bT HT) ?_;refine ec 9 (HEA.out _ HQ.out) ?_;rintro e wq ⟨rfl,hbq⟩;replace HQ := Hd (HQ.out.trans (hbq.mono HQ.out.size))
 replace HT := Hd (HTF.out _ HQ.out)
 clear hbq;refine ek (bT HT) ?_;refine em 10 (.tuple #[.int .u64 v,.int .i64 0]) (bT HT) ?_;refine eg 11 (.int .u64 v) (bT HT) ?_;refine eg 12 (.int .i64 0) (bT HT) ?_;refine eS 13 (.int .u64 v) (bT HT) ?_;refine eS 14 (.int .i64 0) (bT HT) ?_;refine zab (by kernel_rfl) ?_ _;go_upto_region 2 with fail
 refine zac (fun Wx => Wx.cell? ⟨bx,0,none⟩ = some (.pointer (some ⟨g1,0,none⟩)) ∧ Wx.cell? ⟨bx,1,none⟩ = some (.pointer (some ⟨g2,0,none⟩)) ∧ Wx.cell? ⟨bx,2,none⟩ = some (.slice (some ⟨gv,0,none⟩) 260 260)) (fun _ => True) [] (by kernel_rfl) ?_;replace HQ := Hd (HQ.out.drew)
 replace HT := Hd (HTF.out _ HQ.out)
 generalize World.drew _ = We at HQ HT ⊢;refine em 0 (.pointer (some ⟨bx,0,none⟩)) (bT HT) ?_;refine ez 1 ⟨bx,0,none⟩ (bT HT) ?_;refine ef 2 ⟨bx,0,none⟩ ⟨bx,1,none⟩ (bT HT) ?_;refine el false 3 ⟨bx,1,none⟩ (.pointer (some ⟨g2,0,none⟩)) underlying52 (fun w hS => hS.1.2.1) (bT HT) ?_;refine em 4 (.int .i64 n) (bT HT) ?_;refine em 5 (.pointer (some ⟨bx,0,none⟩)) (bT HT) ?_;refine ez 6 ⟨bx,0,none⟩ (bT HT) ?_;refine ef 7 ⟨bx,0,none⟩ ⟨bx,2,none⟩ (bT HT) ?_;refine el false 8 ⟨bx,2,none⟩ (.slice (some ⟨gv,0,none⟩) 260 260) underlying26 (fun w hS => hS.1.2.2) (bT HT) ?_;refine ec 9 (HEB.out _ HQ.out) ?_;rintro e wq ⟨rfl,hbq⟩;replace HQ := Hd (HQ.out.trans (hbq.mono HQ.out.size))
 replace HT := Hd (HTF.out _ HQ.out)
 clear hbq;refine ek (bT HT) ?_;refine em 10 (.tuple #[.int .u64 v,.int .i64 0]) (bT HT) ?_;refine eg 11 (.int .u64 v) (bT HT) ?_;refine eg 12 (.int .i64 0) (bT HT) ?_;refine eS 13 (.int .u64 v) (bT HT) ?_;refine eS 14 (.int .i64 0) (bT HT) ?_;refine zab (by kernel_rfl) ?_ _;go_wp2;go_ret;exact ⟨rfl,HQ.out⟩
theorem ziI (h : ziH w B1 g1 F1 p1 B2 g2 F2 p2 bx gv V)(x : EvD)(v u : Value)(hv : zjd w w.heap.size v x.args)(hu : zjd w w.heap.size u x.args)(ha : x.kind ≠ 2 → ∃ y,evP p1.T V x.a = some y)(hw : ∃ y,evP p1.T V x.v = some y)(hg : ∀ a ∈ x.args,∃ y,evP p1.T V a = some y) :
  Calls prog 52 #[.pointer (some ⟨bx,0,none⟩),.agg (evC (x,v)).toArray,.agg (evC (x,u)).toArray] w fun e w' => e = .returned (.bool true) ∧ Below w.heap.size w w' := by
 obtain ⟨A,c,hv1⟩ := hv.form;obtain ⟨A2,c2,hu1⟩ := hu.form;subst hv1 hu1;obtain ⟨k1,s1,a1,v1,n1,l1⟩ := x;dsimp only at hv hu ha hw hg;show Calls prog 52 #[.pointer (some ⟨bx,0,none⟩),.agg #[.int .i8 k1,.int .i8 s1,.int .i64 a1,.int .i64 v1,.int .i64 n1,.slice A l1.length c],.agg #[.int .i8 k1,.int .i8 s1,.int .i64 a1,.int .i64 v1,.int .i64 n1,.slice A2 l1.length c2]] w _
 obtain ⟨w1,hw1⟩ : ∃ z,(w.alloc (.cells #[.int .i8 k1,.int .i8 s1,.int .i64 a1,.int .i64 v1,.int .i64 n1,.slice A l1.length c] 72)).alloc (.cells #[.int .i8 k1,.int .i8 s1,.int .i64 a1,.int .i64 v1,.int .i64 n1,.slice A2 l1.length c2] 72) = z := ⟨_,rfl⟩;have hb : Below w.heap.size w w1 := by rw [← hw1]; exact ((Below.refl _ w).alloc (ztn _) _).alloc (by simp) _
 have HV := Hd (hv.below hb)
 have HU := Hd (hu.below hb)
 have HB := Hd hb
 have H := Hd (h.below hb)
 have HA := Hd ha
 have HW := Hd hw
 have HG := Hd hg
 have hm63 : l1.length < 9223372036854775808 := by obtain ⟨_,_,_,_,_,_,q⟩ := hv; exact q
 obtain ⟨m1,hm1⟩ : ∃ k,l1.length = k := ⟨_,rfl⟩;have HM := Hd hm1
 rw [hm1] at hw1 hm63 ⊢;have HX : Blk w1 w.heap.size 72 #[.int .i8 k1,.int .i8 s1,.int .i64 a1,.int .i64 v1,.int .i64 n1,.slice A m1 c] := by rw [← hw1]; exact (Blk.new w 72 #[.int .i8 k1,.int .i8 s1,.int .i64 a1,.int .i64 v1,.int .i64 n1,.slice A m1 c]).alloc _
 have HY : Blk w1 (w.heap.size + 1) 72 #[.int .i8 k1,.int .i8 s1,.int .i64 a1,.int .i64 v1,.int .i64 n1,.slice A2 m1 c2] := by
  rw [← hw1];have := Blk.new (w.alloc (.cells #[.int .i8 k1,.int .i8 s1,.int .i64 a1,.int .i64 v1,.int .i64 n1,.slice A m1 c] 72)) 72 #[.int .i8 k1,.int .i8 s1,.int .i64 a1,.int .i64 v1,.int .i64 n1,.slice A2 m1 c2]
  simpa using this
 have HXX := Hd (ztp HX HY)
 obtain ⟨b4,hb4⟩ : ∃ k,w.heap.size = k := ⟨_,rfl⟩;have HB4 := Hd hb4
 rw [hb4] at HXX HX HY;have x0 : w1.cell? ⟨b4,0,none⟩ = some (.int .i8 k1) := HX.cell 0;have x1 : w1.cell? ⟨b4,1,none⟩ = some (.int .i8 s1) := HX.cell 1;have x4 : w1.cell? ⟨b4,4,none⟩ = some (.int .i64 n1) := HX.cell 4;have x5 : w1.cell? ⟨b4,5,none⟩ = some (.slice A m1 c) := HX.cell 5;have y0 : w1.cell? ⟨b4 + 1,0,none⟩ = some (.int .i8 k1) := HY.cell 0;have y1 : w1.cell? ⟨b4 + 1,1,none⟩ = some (.int .i8 s1) := HY.cell 1;have y4 : w1.cell? ⟨b4 + 1,4,none⟩ = some (.int .i64 n1) := HY.cell 4;have y5 : w1.cell? ⟨b4 + 1,5,none⟩ = some (.slice A2 m1 c2) := HY.cell 5;clear hv hu hb hm1 h ha hw hg HX HY;go_enter func52,ntmps52;go_wp2_with fail
 clear hw1 hb4 x0 x1 x4 x5 y0 y1 y4 y5;generalize b4 + 1 = b5 at HXX ⊢;go_loopw [7] (fun i wr => ∃ k : Nat,k ≤ m1 ∧ i = .int .i64 k ∧ Hid (Below w1.heap.size w1 wr)) (fun i _ => m1 - (intOf i).toNat)
 case atStart => exact ⟨0,by omega,rfl,Below.refl _ _⟩
 case round =>
  obtain ⟨k,hk,rfl,HQ⟩ := hrel
  rename World => wr
  have x5 : wr.cell? ⟨b4,5,none⟩ = some (.slice A m1 c) := (HXX.out.1.below HQ.out HXX.out.1.lt).cell 5;have y5 : wr.cell? ⟨b5,5,none⟩ = some (.slice A2 m1 c2) := (HXX.out.2.below HQ.out HXX.out.2.lt).cell 5
  by_cases hlt : k < m1
  ·obtain ⟨_,_,e1,_,R1,_,_⟩ := HV.out
   obtain ⟨_,_,e2,_,R2,_,_⟩ := HU.out;injection e1 with e1 _ _
   injection e2 with e2 _ _
   subst e1 e2;obtain ⟨ad,t,rfl,hab,ht,hcx⟩ := R1.at_ (k := k) (by rw [HM.out]; exact hlt);obtain ⟨ad2,t2,rfl,hab2,ht2,hcy⟩ := R2.at_ (k := k) (by rw [HM.out]; exact hlt);obtain rfl : t = t2 := by rw [ht] at ht2; exact Option.some.inj ht2
   have hlk : l1[k]? = some (l1[k]'(by rw [HM.out]; exact hlt)) := ztq _;obtain ⟨n,hn⟩ : ∃ n,l1[k]'(by rw [HM.out]; exact hlt) = n := ⟨_,rfl⟩;rw [hn] at hlk;rw [ztw,hlk] at ht;obtain rfl : (Value.int .i64 n) = t := Option.some.inj ht;have HN := Hd (HG.out n (ztv hlk))
   have hltz : (k : Int) < (m1 : Int) := by omega
   have HTF := Hd (fun (Wx : World) (hc : Below w1.heap.size w1 Wx) => (⟨(HXX.out.1.below hc HXX.out.1.lt).cell 5,(HXX.out.2.below hc HXX.out.2.lt).cell 5,(hc.cell (by rw [zaz]; have := HB.out.size; omega)).trans hcx,(hc.cell (by rw [zaz]; have := HB.out.size; omega)).trans hcy⟩ : Wx.cell? ⟨b4,5,none⟩ = some (.slice (some ad) m1 c) ∧ Wx.cell? ⟨b5,5,none⟩ = some (.slice (some ad2) m1 c2) ∧ Wx.cell? (ad.add k) = some (.int .i64 n) ∧ Wx.cell? (ad2.add k) = some (.int .i64 n)))
   clear hcx hcy hab hab2 ht ht2 hlk hn R1 R2;go_upto_region 6 with fail
   refine zac (fun Wx => Wx.cell? ⟨b4,5,none⟩ = some (.slice (some ad) m1 c) ∧ Wx.cell? ⟨b5,5,none⟩ = some (.slice (some ad2) m1 c2) ∧ Wx.cell? (ad.add k) = some (.int .i64 n) ∧ Wx.cell? (ad2.add k) = some (.int .i64 n)) (fun _ => True) [] (by kernel_rfl) ?_;replace HQ := Hd (HQ.out.drew)
   have HT := Hd (HTF.out _ HQ.out)
   clear x5 y5;generalize World.drew _ = Wd at HQ HT ⊢;refine em 0 (.pointer (some ⟨bx,0,none⟩)) (bT HT) ?_;refine ef 1 ⟨b4,0,none⟩ ⟨b4,5,none⟩ (bT HT) ?_;refine el false 2 ⟨b4,5,none⟩ (.slice (some ad) m1 c) underlying28 (fun w hS => hS.1.1) (bT HT) ?_;refine em 3 (.int .i64 (k : Int)) (bT HT) ?_;refine ej 4 (.slice (some ad) m1 c) (.int .i64 (k : Int)) (.pointer (some (ad.add k))) (zbJ rfl hlt) (bT HT) ?_;refine el false 5 (ad.add k) (.int .i64 n) underlying3 (fun w hS => hS.1.2.2.1) (bT HT) ?_;refine ef 6 ⟨b5,0,none⟩ ⟨b5,5,none⟩ (bT HT) ?_;refine el false 7 ⟨b5,5,none⟩ (.slice (some ad2) m1 c2) underlying28 (fun w hS => hS.1.2.1) (bT HT) ?_;refine em 8 (.int .i64 (k : Int)) (bT HT) ?_;refine ej 9 (.slice (some ad2) m1 c2) (.int .i64 (k : Int)) (.pointer (some (ad2.add k))) (zbJ rfl hlt) (bT HT) ?_;refine el false 10 (ad2.add k) (.int .i64 n) underlying3 (fun w hS => hS.1.2.2.2) (bT HT) ?_;refine ec 11 (zdk (H.out.below HQ.out) HN.out) ?_;rintro e wq ⟨rfl,hbq⟩;replace HQ := Hd (HQ.out.trans (hbq.mono HQ.out.size))
   replace HT := Hd (HTF.out _ HQ.out)
   clear hbq;refine ek (bT HT) ?_;refine eg 12 (.bool false) (bT HT) ?_;refine zab (by kernel_rfl) ?_ _;go_wp2;go_roundw
   case measure => simp [intOf]; omega
   case rel => first | exact ⟨k + 1,by omega,by go_num,HQ.out⟩ | exact ⟨k + 1,by omega,by go_num⟩
  ·obtain rfl : k = m1 := by omega
   have x0 : wr.cell? ⟨b4,0,none⟩ = some (.int .i8 k1) := (HXX.out.1.below HQ.out HXX.out.1.lt).cell 0
   cases h2 : (k1 == 2)
   ·have x2 : wr.cell? ⟨b4,2,none⟩ = some (.int .i64 a1) := (HXX.out.1.below HQ.out HXX.out.1.lt).cell 2
    have y2 : wr.cell? ⟨b5,2,none⟩ = some (.int .i64 a1) := (HXX.out.2.below HQ.out HXX.out.2.lt).cell 2;have HSM := Hd (zdk (H.out.below HQ.out) (HA.out (by simpa using h2)))
    go_wp2_with fail
    refine HSM.out.mono ?_;rintro e w2 ⟨rfl,hb⟩;have HQ2 := Hd (HQ.out.trans (hb.mono HQ.out.size))
    clear hb x0 x2 y2 x5 y5 HQ;have x3 : w2.cell? ⟨b4,3,none⟩ = some (.int .i64 v1) := (HXX.out.1.below HQ2.out HXX.out.1.lt).cell 3;have y3 : w2.cell? ⟨b5,3,none⟩ = some (.int .i64 v1) := (HXX.out.2.below HQ2.out HXX.out.2.lt).cell 3;have HSN := Hd (zdk (H.out.below HQ2.out) HW.out)
    go_wp2_with fail
    refine HSN.out.mono ?_;rintro e w3 ⟨rfl,hb⟩;have HQ3 := Hd (HQ2.out.trans (hb.mono HQ2.out.size))
    clear hb;go_wp2;go_ret;exact ⟨rfl,HB.out.trans (HQ3.out.mono HB.out.size)⟩
   ·have x3 : wr.cell? ⟨b4,3,none⟩ = some (.int .i64 v1) := (HXX.out.1.below HQ.out HXX.out.1.lt).cell 3
    have y3 : wr.cell? ⟨b5,3,none⟩ = some (.int .i64 v1) := (HXX.out.2.below HQ.out HXX.out.2.lt).cell 3;have HSN := Hd (zdk (H.out.below HQ.out) HW.out)
    go_wp2_with fail
    refine HSN.out.mono ?_;rintro e w3 ⟨rfl,hb⟩;have HQ3 := Hd (HQ.out.trans (hb.mono HQ.out.size))
    clear hb;go_wp2;go_ret;exact ⟨rfl,HB.out.trans (HQ3.out.mono HB.out.size)⟩
theorem zoe (h : ziH w B1 g1 F1 p1 B2 g2 F2 p2 bx gv V){regs : List Int}{evs : List EvD}{ex : ExD}{G : Nat → Prop}{es1 es2 : Value}(hl : regs.length = 11)(hfew : evs.length ≤ 64)(he1 : zbt w G es1 evs)(he2 : zbt w G es2 evs)
  (hr : ∀ i,i < 11 → ∃ v,evP p1.T V (regs.getD i 0) = some v) (he : ∀ e ∈ evs,(e.kind ≠ 2 → ∃ v,evP p1.T V e.a = some v) ∧ (∃ v,evP p1.T V e.v = some v) ∧ ∀ a ∈ e.args,∃ v,evP p1.T V a = some v) (hx : ex.kind ≠ 1 → ∃ v,evP p1.T V ex.v = some v) :
  Calls prog 20 #[.pointer (some ⟨bx,0,none⟩),.agg (zcF regs es1 ex).toArray,.agg (zcF regs es2 ex).toArray] w fun e w' => e = .returned (.bool true) ∧ Below w.heap.size w w' := by
 obtain ⟨w1,hw1⟩ : ∃ z,(w.alloc (.cells (zcF regs es1 ex).toArray 65)).alloc (.cells (zcF regs es2 ex).toArray 65) = z := ⟨_,rfl⟩;have hb : Below w.heap.size w w1 := by rw [← hw1]; exact ((Below.refl _ w).alloc (ztn _) _).alloc (by simp) _
 have HB := Hd hb
 have H := Hd (h.below hb)
 have HL := Hd hl
 have HR := Hd hr
 have HE := Hd he
 have HXV0 := Hd hx
 have HX : Blk w1 w.heap.size 65 (zcF regs es1 ex).toArray := by rw [← hw1]; exact (Blk.new w 65 (zcF regs es1 ex).toArray).alloc _
 have HY : Blk w1 (w.heap.size + 1) 65 (zcF regs es2 ex).toArray := by
  rw [← hw1];have := Blk.new (w.alloc (.cells (zcF regs es1 ex).toArray 65)) 65 (zcF regs es2 ex).toArray
  simpa using this
 have HV1 := Hd (he1.step hb)
 have HV2 := Hd (he2.step hb)
 obtain ⟨A,c1,hs1,hc1⟩ := he1.form;obtain ⟨A2,c3,hs2,hc3⟩ := he2.form;obtain ⟨ne,hne⟩ : ∃ k,evs.length = k := ⟨_,rfl⟩;have HNE := Hd hne
 rw [hne] at hs1 hs2 hfew;subst hs1 hs2;obtain ⟨ekk,hek⟩ : ∃ q,ex.kind = q := ⟨_,rfl⟩;obtain ⟨xv,hxv⟩ : ∃ q,ex.v = q := ⟨_,rfl⟩;obtain ⟨et,het⟩ : ∃ q,ex.tgt = q := ⟨_,rfl⟩;obtain ⟨ee,hee⟩ : ∃ q,ex.els = q := ⟨_,rfl⟩;have HXV := Hd (show ekk ≠ 1 → ∃ v,evP p1.T V xv = some v by rw [← hek,← hxv]; exact hx)
 have HXX := Hd (ztp HX HY)
 obtain ⟨b4,hb4⟩ : ∃ k,w.heap.size = k := ⟨_,rfl⟩;rw [hb4] at HXX HX HY;have HC := Hd (fun (Wx : World) (hc : Below w1.heap.size w1 Wx) => (by
  have hX := HXX.out.1.below hc HXX.out.1.lt;have hY := HXX.out.2.below hc HXX.out.2.lt;exact ⟨zcx HL.out hX 0,zcx HL.out hY 0,(zcx HL.out hX 1).trans (by rw [← hek]; rfl),(zcx HL.out hY 1).trans (by rw [← hek]; rfl),(zcx HL.out hX 2).trans (by rw [← hxv]; rfl),(zcx HL.out hY 2).trans (by rw [← hxv]; rfl),(zcx HL.out hX 3).trans (by rw [← het]; rfl),(zcx HL.out hY 3).trans (by rw [← het]; rfl),(zcx HL.out hX 4).trans (by rw [← hee]; rfl),(zcx HL.out hY 4).trans (by rw [← hee]; rfl)⟩ :
  Wx.cell? ⟨b4,11,none⟩ = some (.slice A ne c1) ∧ Wx.cell? ⟨b4 + 1,11,none⟩ = some (.slice A2 ne c3) ∧ Wx.cell? ⟨b4,12,none⟩ = some (.int .i8 ekk) ∧ Wx.cell? ⟨b4 + 1,12,none⟩ = some (.int .i8 ekk) ∧ Wx.cell? ⟨b4,13,none⟩ = some (.int .i64 xv) ∧ Wx.cell? ⟨b4 + 1,13,none⟩ = some (.int .i64 xv) ∧ Wx.cell? ⟨b4,14,none⟩ = some (.int .i64 et) ∧ Wx.cell? ⟨b4 + 1,14,none⟩ = some (.int .i64 et) ∧ Wx.cell? ⟨b4,15,none⟩ = some (.int .i64 ee) ∧ Wx.cell? ⟨b4 + 1,15,none⟩ = some (.int .i64 ee)))
 obtain ⟨x11,y11,x12,y12,x13,y13,x14,y14,x15,y15⟩ := HC.out w1 (Below.refl _ _);clear h hb hl he1 he2 hr he hx HX HY hne hek hxv het hee;go_enter func20,ntmps20;go_wp2_with fail
 clear hw1 hb4 x11 y11 x12 y12 x13 y13 x14 y14 x15 y15;generalize b4 + 1 = b5 at HXX HC ⊢;go_loopw [7] (fun i wr => ∃ k : Nat,k ≤ ne ∧ i = .int .i64 k ∧ Hid (Below w1.heap.size w1 wr)) (fun i _ => ne - (intOf i).toNat)
 case atStart => exact ⟨0,by omega,rfl,Below.refl _ _⟩
 case round =>
  obtain ⟨k,hk,rfl,HQ⟩ := hrel
  rename World => wr
  have x11 : wr.cell? ⟨b4,11,none⟩ = some (.slice A ne c1) := (HC.out wr HQ.out).1
  by_cases hlt : k < ne
  ·have y11 : wr.cell? ⟨b5,11,none⟩ = some (.slice A2 ne c3) := (HC.out wr HQ.out).2.1
   obtain ⟨ad,y,s1,hA,hab,hy,hyw,hn1,hcx⟩ := HV1.out.at_ hlt;obtain ⟨ad2,y2,s2,hA2,hab2,hy2,_,hn2,hcy⟩ := HV2.out.at_ hlt;obtain rfl : y = y2 := by rw [hy] at hy2; exact Option.some.inj hy2
   subst hA hA2;obtain ⟨ha,hw,hg⟩ := HE.out y (ztv hy);have HAC := Hd (fun (Wx : World) (hc : Below w1.heap.size w1 Wx) => ziI (H.out.below hc) y s1 s2 ((hn1.nx.below hc).more hc.size) ((hn2.nx.below hc).more hc.size) ha hw hg)
   have hltz : (k : Int) < (ne : Int) := by omega
   have HTF := Hd (fun (Wx : World) (hc : Below w1.heap.size w1 Wx) => (⟨(HC.out Wx hc).1,(HC.out Wx hc).2.1,fun j u hu => (hc.cell (by rw [zaz,zaz]; exact hab)).trans (hcx j u hu),fun j u hu => (hc.cell (by rw [zaz,zaz]; exact hab2)).trans (hcy j u hu)⟩ : Wx.cell? ⟨b4,11,none⟩ = some (.slice (some ad) ne c1) ∧ Wx.cell? ⟨b5,11,none⟩ = some (.slice (some ad2) ne c3) ∧ (∀ j u,(evC (y,s1))[j]? = some u → Wx.cell? ((ad.add (k * 6)).add j) = some u) ∧ ∀ j u,(evC (y,s2))[j]? = some u → Wx.cell? ((ad2.add (k * 6)).add j) = some u))
   clear hcx hcy hab hab2 hn1 hn2 ha hw hg hy hy2 hyw;go_upto_region 6 with fail
   refine zac (fun Wx => Wx.cell? ⟨b4,11,none⟩ = some (.slice (some ad) ne c1) ∧ Wx.cell? ⟨b5,11,none⟩ = some (.slice (some ad2) ne c3) ∧ (∀ j u,(evC (y,s1))[j]? = some u → Wx.cell? ((ad.add (k * 6)).add j) = some u) ∧ ∀ j u,(evC (y,s2))[j]? = some u → Wx.cell? ((ad2.add (k * 6)).add j) = some u) (fun _ => True) [] (by kernel_rfl) ?_;replace HQ := Hd (HQ.out.drew)
   have HT := Hd (HTF.out _ HQ.out)
   clear x11 y11;generalize World.drew _ = Wd at HQ HT ⊢;refine em 0 (.pointer (some ⟨bx,0,none⟩)) (bT HT) ?_;refine ef 1 ⟨b4,0,none⟩ ⟨b4,11,none⟩ (bT HT) ?_;refine el false 2 ⟨b4,11,none⟩ (.slice (some ad) ne c1) underlying61 (fun w hS => hS.1.1) (bT HT) ?_;refine em 3 (.int .i64 (k : Int)) (bT HT) ?_;refine ej 4 (.slice (some ad) ne c1) (.int .i64 (k : Int)) (.pointer (some (ad.add (k * 6)))) (zlE hlt) (bT HT) ?_;refine eL false 5 (ad.add (k * 6)) (evC (y,s1)) (fun w hS => hS.1.2.2.1) underlying72 zqV (bT HT) ?_;refine ef 6 ⟨b5,0,none⟩ ⟨b5,11,none⟩ (bT HT) ?_;refine el false 7 ⟨b5,11,none⟩ (.slice (some ad2) ne c3) underlying61 (fun w hS => hS.1.2.1) (bT HT) ?_;refine em 8 (.int .i64 (k : Int)) (bT HT) ?_;refine ej 9 (.slice (some ad2) ne c3) (.int .i64 (k : Int)) (.pointer (some (ad2.add (k * 6)))) (zlE hlt) (bT HT) ?_;refine eL false 10 (ad2.add (k * 6)) (evC (y,s2)) (fun w hS => hS.1.2.2.2) underlying72 zqV (bT HT) ?_;refine ec 11 (HAC.out _ HQ.out) ?_;rintro e wq ⟨rfl,hbq⟩;replace HQ := Hd (HQ.out.trans (hbq.mono HQ.out.size))
   replace HT := Hd (HTF.out _ HQ.out)
   clear hbq;refine ek (bT HT) ?_;refine eg 12 (.bool false) (bT HT) ?_;refine zab (by kernel_rfl) ?_ _;go_wp2;go_roundw
   case measure => simp [intOf]; omega
   case rel => first | exact ⟨k + 1,by omega,by go_num,HQ.out⟩ | exact ⟨k + 1,by omega,by go_num⟩
  ·obtain rfl : k = ne := by omega
   go_wp2_with fail
   clear x11;have HQ0 := Hd HQ.out
   go_loopw [8] (fun i wq => ∃ j : Nat,j ≤ 11 ∧ i = .int .i64 j ∧ Hid (Below w1.heap.size w1 wq)) (fun i _ => 11 - (intOf i).toNat)
   case atStart => exact ⟨0,by omega,rfl,HQ0.out⟩
   case round =>
    obtain ⟨k,hk,rfl,HQ⟩ := hrel
    rename World => wq
    by_cases hlt : k < 11
    ·have HN := Hd (HR.out k hlt)
     have HTF := Hd (fun (Wx : World) (hc : Below w1.heap.size w1 Wx) => (⟨znA HL.out (HXX.out.1.below hc HXX.out.1.lt) hlt,znA HL.out (HXX.out.2.below hc HXX.out.2.lt) hlt⟩ : Wx.cell? ⟨b4,k,none⟩ = some (.int .i64 (regs.getD k 0)) ∧ Wx.cell? ⟨b5,k,none⟩ = some (.int .i64 (regs.getD k 0))))
     generalize regs.getD k 0 = n at HN HTF;go_upto_region 11 with fail
     refine zac (fun Wx => Wx.cell? ⟨b4,k,none⟩ = some (.int .i64 n) ∧ Wx.cell? ⟨b5,k,none⟩ = some (.int .i64 n)) (fun _ => True) [] (by kernel_rfl) ?_;replace HQ := Hd (HQ.out.drew)
     have HT := Hd (HTF.out _ HQ.out)
     generalize World.drew _ = Wd at HQ HT ⊢;refine em 0 (.pointer (some ⟨bx,0,none⟩)) (bT HT) ?_;refine em 1 (.int .i64 (k : Int)) (bT HT) ?_;refine ef 2 ⟨b4,0,none⟩ ⟨b4,0,none⟩ (bT HT) ?_;refine ej 3 (.pointer (some ⟨b4,0,none⟩)) (.int .i64 (k : Int)) (.pointer (some ⟨b4,k,none⟩)) (zcX _ hlt) (bT HT) ?_;refine el false 4 ⟨b4,k,none⟩ (.int .i64 n) underlying3 (fun w hS => hS.1.1) (bT HT) ?_;refine em 5 (.int .i64 (k : Int)) (bT HT) ?_;refine ef 6 ⟨b5,0,none⟩ ⟨b5,0,none⟩ (bT HT) ?_;refine ej 7 (.pointer (some ⟨b5,0,none⟩)) (.int .i64 (k : Int)) (.pointer (some ⟨b5,k,none⟩)) (zcX _ hlt) (bT HT) ?_;refine el false 8 ⟨b5,k,none⟩ (.int .i64 n) underlying3 (fun w hS => hS.1.2) (bT HT) ?_;refine ec 9 (zdk (H.out.below HQ.out) HN.out) ?_;rintro e wq ⟨rfl,hbq⟩;replace HQ := Hd (HQ.out.trans (hbq.mono HQ.out.size))
     replace HT := Hd (HTF.out _ HQ.out)
     clear hbq;refine ek (bT HT) ?_;refine eg 10 (.bool false) (bT HT) ?_;refine zab (by kernel_rfl) ?_ _;go_wp2;go_roundw
     case measure => simp [intOf]; omega
     case rel => first | exact ⟨k + 1,by omega,by go_num,HQ.out⟩ | exact ⟨k + 1,by omega,by go_num⟩
    ·obtain rfl : k = 11 := by omega
     obtain ⟨_,_,x12,_,x13,y13,_⟩ := HC.out wq HQ.out
     cases h1 : (ekk == 1)
     ·have HSN := Hd (zdk (H.out.below HQ.out) (HXV.out (by simpa using h1)))
      go_wp2_with fail
      refine HSN.out.mono ?_;rintro e w3 ⟨rfl,hb⟩;have HQ3 := Hd (HQ.out.trans (hb.mono HQ.out.size))
      clear hb;go_wp2;go_ret;exact ⟨rfl,HB.out.trans (HQ3.out.mono HB.out.size)⟩
     ·go_wp2
      go_ret;exact ⟨rfl,HB.out.trans (HQ.out.mono HB.out.size)⟩
end
end
end Go.Proofs.YtepagfkkjlbipaaGreat
