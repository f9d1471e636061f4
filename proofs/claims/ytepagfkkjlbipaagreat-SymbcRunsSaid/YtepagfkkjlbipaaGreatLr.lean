/-
  SymbcRuns: what a block comes to, the program's and the document's, evaluated: the walk. Conditions: those written in each statement.
-/
import Derived.Test.YtepagfkkjlbipaaGreatKbh
set_option linter.unusedVariables false
set_option linter.unusedSimpArgs false
set_option maxHeartbeats 64000000
set_option maxRecDepth 100000
namespace Go.Proofs.YtepagfkkjlbipaaGreat
open Go.RowKit
open Tryz
theorem zke (g1 g2 gv : Nat)(w : World) : (Instr.build 56 #[(0,.pointer (some ⟨g1,0,none⟩)),(1,.pointer (some ⟨g2,0,none⟩)),(2,.slice (some ⟨gv,0,none⟩) 260 260)]).run prog w = .ok (.agg #[.pointer (some ⟨g1,0,none⟩),.pointer (some ⟨g2,0,none⟩),.slice (some ⟨gv,0,none⟩) 260 260]) w := run_build w 56 _ _ (by kernel_rfl)
theorem Go2.own {G G' : Nat → Prop}{W W' W2 : World}(h : Go2 G W G' W'){b : Nat}(hb : W.heap.size ≤ b)(hc : Chg (fun k => k = b) W' W2) : Go2 G W G' W2 :=
 ⟨⟨hc.os.trans h.chg.os,hc.tape.trans h.chg.tape,hc.output.trans h.chg.output,zto h.chg.size hc.size,fun k hk hn => (hc.block k (zty hk h.chg.size) (by omega)).trans (h.chg.block k hk hn)⟩,h.new⟩
def PB : Bool → PS
 | true => P2
 | false => P0
def RB : Bool → List Int
 | true => R2
 | false => R0
theorem zlg (e : Bool) : WfP (PB e) ∧ (∀ t ∈ (PB e).T,t.wf) ∧ ∀ r ∈ RB e,zal (PB e).T r = true := by
 cases e
 ·exact zdi
 ·exact zeQ
theorem zra (e : Bool) : MI (SM.mk (PB e) (RB e) [] 0) 3900 1 := by
 cases e
 ·exact zsi
 ·exact zrk
theorem zpk (e : Bool) : (RB e).length = 11 := by cases e <;> rfl
theorem zrb (e : Bool) : (prog.info? 57).map (·.size) = some (rgC (RB e)).length := by
 cases e
 ·exact zee
 ·exact zee
theorem zrc {vs : List Int}(hU : ∀ v ∈ vs,U64 v)(hlen : 38 + 3 * 64 < vs.length)(e : Bool)(c : Int)(l : List ID)(block : Int) : zrl vs (zgn (PB e) c l block (RB e)) (zdx (PB e) c l block (RB e)) := by
 cases e
 ·exact zkp hU hlen c l block
 ·exact zkq hU hlen c l block
theorem zrd : (prog.info? 24).map (·.size) = some 2 := by kernel_rfl
theorem zfD {P : Program}{c : Code}{Q : Exit → Act → World → Prop}{a : Act}{w : World}(act : Nat → Value → Act)(J : Nat → Value → World → Prop)(h1 : c.wp P (fun e a' w' => match e with | .normal => ∃ b es,J b es w' ∧ a' = act b es | _ => False) a w)(h2 : ∀ b es w',J b es w' → Q .normal (act b es) w') : c.wp P Q a w :=
 Code.wp_mono (fun e a' w' h => by
  cases e with
  | normal =>
   obtain ⟨b,es,hj,rfl⟩ := h;exact h2 b es w' hj
  | _ => exact h.elim) h1
theorem zlh (c : Int)(A : Option Addr)(n cap : Nat)(l : List ID)(block : Int)(entry : Bool)(A2 : Option Addr)(n2 c2 : Nat)(l2 : List Int)(w : World)(hh : zcJ w w.heap.size A n l)(hc : n ≤ cap)(hm : n < 9223372036854775808)(hbk : I64 block)
  (hr2 : zaU w w.heap.size 1 A2 n2 (zgy l2)) (hl2 : l2.length = n2) (hc2 : n2 ≤ c2) (hm2 : n2 < 9223372036854775808) :
  Calls prog 4 #[.agg #[.int .i64 c,.slice A n cap],.int .i64 block,.bool entry,.slice A2 n2 c2] w fun e w' => e = .returned (.bool true) ∧ Below w.heap.size w w' := by
 obtain ⟨w1,hw1⟩ : ∃ v,w.alloc (.cells #[.int .i64 c,.slice A n cap] 24) = v := ⟨_,rfl⟩;have hb0 : Below w.heap.size w w1 := by rw [← hw1]; exact (Below.refl _ w).alloc (ztn _) _
 have HBP := Hd (show Blk w1 w.heap.size 24 #[.int .i64 c,.slice A n cap] by rw [← hw1]; exact Blk.new w 24 #[.int .i64 c,.slice A n cap])
 have HI := Hd (hh.up hb0 hb0.size)
 have HI00 := Hd HI.out
 have HR2 := Hd (show zaU w1 w1.heap.size 1 A2 n2 (zgy l2) from (hr2.below hb0).more hb0.size)
 have HL2 := Hd (ztp hl2 hc2)
 have HW := Hd hb0
 have HN := Hd (ztp hc hm)
 have HBK := Hd hbk
 have c20 : w1.cell? ⟨w.heap.size,0,none⟩ = some (.int .i64 c) := HBP.out.cell 0;have c21 : w1.cell? ⟨w.heap.size,1,none⟩ = some (.slice A n cap) := HBP.out.cell 1;obtain ⟨bp,hbp⟩ : ∃ k,w.heap.size = k := ⟨_,rfl⟩;rw [hbp] at HBP c20 c21;clear hh hc hm hbk hb0 hr2 hl2 hc2
 cases hg : decide (100 < n);rotate_left
 ·have hn100 : 100 < n := by simpa using hg
  go_enter func4,ntmps4;go_wp2_with fail
  refine (zeo _).mono ?_;rintro e w2 ⟨rfl,hb⟩;have HQ := Hd hb
  clear hb;go_wp2;go_ret;exact ⟨rfl,HW.out.trans (HQ.out.mono HW.out.size)⟩
 have hnb : n ≤ 100 := by simpa using hg
 clear hg
 cases hg : decide (100 < n2);rotate_left
 ·have hn100 : 100 < n2 := by simpa using hg
  go_enter func4,ntmps4;go_wp2_with fail
  refine (zeo _).mono ?_;rintro e w2 ⟨rfl,hb⟩;have HQ := Hd hb
  clear hb;go_wp2;go_ret;exact ⟨rfl,HW.out.trans (HQ.out.mono HW.out.size)⟩
 have hn2b : n2 ≤ 100 := by simpa using hg
 clear hg;clear hm2;go_enter func4,ntmps4;go_wp2_with fail
 refine (zm7 _).mono ?_;rintro e w2 ⟨g1,F1,rfl,hp,hb⟩;have hF1 : ∀ b,F1 b → w1.heap.size ≤ b := fun b q => (hp.fb b q).1
 replace HBP := Hd (show Blk w2 bp 24 #[.int .i64 c,.slice A n cap] from HBP.out.below hb HBP.out.lt)
 replace HI := Hd (HI.out.below hb)
 replace HR2 := Hd (HR2.out.below hb)
 have HP1 := Hd hp
 have HB1 := Hd hb
 have hlt0 : bp < w1.heap.size := by rw [← hw1,← hbp]; simp
 clear hp hb c20 c21 hw1 hbp;go_wp2_with fail
 refine (zoF _).mono ?_;rintro e w3 ⟨g2,F2,rfl,hp,hb⟩;have hs12 := HB1.out.size;have hF2 : ∀ b,F2 b → w2.heap.size ≤ b := fun b q => (hp.fb b q).1
 have hG : ∀ b,zbg F1 F2 b → w1.heap.size ≤ b := fun b q => q.elim (hF1 b) (fun r => zto HB1.out.size (hF2 b r))
 have HF := Hd hG
 have HT := Hd (show zhc w1.heap.size g1 F1 ⟨[],[]⟩ w2.heap.size g2 F2 ⟨[],[]⟩ w3 from ⟨HP1.out.below hb,hp,fun k q r => by have := (HP1.out.fb k q).2; have := hF2 k r; omega,zto HB1.out.size hb.size,hb.size⟩)
 replace HB1 := Hd (HB1.out.trans (hb.mono HB1.out.size))
 replace HBP := Hd (show Blk w3 bp 24 #[.int .i64 c,.slice A n cap] ∧ ¬ zbg F1 F2 bp from ⟨HBP.out.below hb HBP.out.lt,fun q => by have := hG bp q; omega⟩)
 replace HI := Hd (show ze9 w3 (zbg F1 F2) A n l from ze9.of_ins ((HI.out.below (hb.mono hs12))) HB1.out.size hG)
 replace HR2 := Hd (show za5 w3 (zbg F1 F2) 1 A2 n2 (zgy l2) from znB (HR2.out.below (hb.mono hs12)) HB1.out.size hG)
 have HGO := Hd (Go2.refl (zbg F1 F2) w3)
 have HV3 := Hd (show w1.heap.size ≤ w3.heap.size from HB1.out.size)
 clear hp hb hF1 hF2 hG HP1 hlt0 hs12;go_wp2_with fail
 refine (zld A2 n2 c2 l2 _ HR2.out.reads HL2.out.1 HL2.out.2 hn2b).mono ?_;rintro e w4 ⟨V,rfl,hv1,hv2,hv3,hb⟩;have hnf : ¬ zbg F1 F2 w3.heap.size := fun q => by have := HT.out.lt1 q; omega
 have HVB := Hd (ztp hv3 hnf)
 have HVU := Hd (ztp hv1 hv2)
 have hgo := Go2.below (G := (zbg F1 F2)) hb;replace HBP := Hd (hgo.blk HBP.out)
 replace HI := Hd (hgo.ins HI.out)
 replace HGO := Hd (HGO.out.trans hgo)
 replace HT := Hd (HT.out.step hb)
 clear hgo;obtain ⟨gv,hbn⟩ : ∃ q,w3.heap.size = q := ⟨_,rfl⟩;have HGV3 := Hd hbn
 rw [hbn] at HVB ⊢;clear hbn hnf hv1 hv2 hv3 hb HR2 HL2;have qb := fun (W : World) => zke g1 g2 gv W
 go_upto_region 4 with (first
  | (refine zeU rfl 56 (.tmp 32) rfl (.agg #[.pointer (some ⟨g1,0,none⟩),.pointer (some ⟨g2,0,none⟩),.slice (some ⟨gv,0,none⟩) 260 260]) #[.pointer (some ⟨g1,0,none⟩),.pointer (some ⟨g2,0,none⟩),.slice (some ⟨gv,0,none⟩) 260 260] (by rfl) rfl ?_
     intro w5 bx hbm G3 L3;have HBX := Hd G3
     have HLz := Hd L3
     have HBML := Hd hbm
     clear G3 L3 hbm)
  | fail)
 clear qb;have hnf : ¬ zbg F1 F2 bx := fun q => by have := HT.out.lt1 q; have := HBML.out; omega
 replace HBX := Hd (ztp HBX.out hnf)
 have hgo := Go2.below (G := (zbg F1 F2)) HLz.out;replace HBP := Hd (hgo.blk HBP.out)
 replace HVB := Hd (hgo.blk HVB.out)
 replace HI := Hd (hgo.ins HI.out)
 replace HGO := Hd (HGO.out.trans hgo)
 replace HT := Hd (HT.out.step HLz.out)
 clear hgo hnf HLz HBML;have x0 : w5.cell? ⟨bx,0,none⟩ = some (.pointer (some ⟨g1,0,none⟩)) := HBX.out.1.cell 0;go_wp2_with fail
 refine (zh3 HT.out.a HT.out.h1).mono ?_;rintro e w6 ⟨rfl,Fa,hp⟩;rw [zek] at hp ⊢;obtain ⟨htw,hgo⟩ := HT.out.left hp;replace HBP := Hd (hgo.blk HBP.out)
 replace HVB := Hd (hgo.blk HVB.out)
 replace HBX := Hd (hgo.blk HBX.out)
 replace HI := Hd (hgo.ins HI.out)
 replace HGO := Hd (HGO.out.trans hgo)
 replace HT := Hd htw
 clear htw hgo;clear hp x0;go_upto_region 5 with (first
  | (refine zag rfl 57 (.tmp 10) (.tmp 40) rfl _ (rgC R0) (.agg (rgC R0).toArray) (by rfl) (by rfl) rfl zee (by rfl) (zb9 _) ?_
     intro w7 Gz Lz Zz;have HB10 := Hd Gz
     have HLz := Hd Lz
     clear Gz Lz Zz)
  | fail)
 have hnf : ¬ (zbg Fa F2) w6.heap.size := fun q => by have := HT.out.lt1 q; omega
 replace HB10 := Hd (ztp HB10.out hnf)
 have HLb10 := Hd (show bp < w6.heap.size ∧ gv < w6.heap.size ∧ bx < w6.heap.size ∧ w3.heap.size ≤ w6.heap.size from ⟨HBP.out.1.lt,HVB.out.1.lt,HBX.out.1.lt,HGO.out.chg.size⟩)
 have hgo := Go2.below (G := (zbg Fa F2)) HLz.out;replace HBP := Hd (hgo.blk HBP.out)
 replace HVB := Hd (hgo.blk HVB.out)
 replace HBX := Hd (hgo.blk HBX.out)
 replace HI := Hd (hgo.ins HI.out)
 replace HGO := Hd (HGO.out.trans hgo)
 replace HT := Hd (HT.out.step HLz.out)
 clear hgo;obtain ⟨b10,hbn⟩ : ∃ q,w6.heap.size = q := ⟨_,rfl⟩;rw [hbn] at HB10 HLb10 ⊢;clear hbn HLz hnf;have x1 : w7.cell? ⟨bx,1,none⟩ = some (.pointer (some ⟨g2,0,none⟩)) := HBX.out.1.cell 1;go_wp2_with fail
 refine (zkD HT.out.b HT.out.h2).mono ?_;rintro e w8 ⟨rfl,Fb,hp⟩;rw [zek] at hp ⊢;obtain ⟨htw,hgo⟩ := HT.out.right hp;replace HBP := Hd (hgo.blk HBP.out)
 replace HVB := Hd (hgo.blk HVB.out)
 replace HBX := Hd (hgo.blk HBX.out)
 replace HB10 := Hd (hgo.blk HB10.out)
 replace HI := Hd (hgo.ins HI.out)
 replace HGO := Hd (HGO.out.trans hgo)
 replace HT := Hd htw
 clear htw hgo;clear hp x1;go_upto_region 6 with (first
  | (refine zag rfl 57 (.tmp 12) (.tmp 48) rfl _ (rgC R0) (.agg (rgC R0).toArray) (by rfl) (by rfl) rfl zee (by rfl) (zb9 _) ?_
     intro w9 Gz Lz Zz;have HB12 := Hd Gz
     have HLz := Hd Lz
     clear Gz Lz Zz)
  | fail)
 have hnf : ¬ (zbg Fa Fb) w8.heap.size := fun q => by have := HT.out.lt1 q; omega
 replace HB12 := Hd (ztp HB12.out hnf)
 have HLb12 := Hd (show bp < w8.heap.size ∧ gv < w8.heap.size ∧ bx < w8.heap.size ∧ b10 < w8.heap.size ∧ w3.heap.size ≤ w8.heap.size from ⟨HBP.out.1.lt,HVB.out.1.lt,HBX.out.1.lt,HB10.out.1.lt,HGO.out.chg.size⟩)
 have hgo := Go2.below (G := (zbg Fa Fb)) HLz.out;replace HBP := Hd (hgo.blk HBP.out)
 replace HVB := Hd (hgo.blk HVB.out)
 replace HBX := Hd (hgo.blk HBX.out)
 replace HB10 := Hd (hgo.blk HB10.out)
 replace HI := Hd (hgo.ins HI.out)
 replace HGO := Hd (HGO.out.trans hgo)
 replace HT := Hd (HT.out.step HLz.out)
 clear hgo;obtain ⟨b12,hbn⟩ : ∃ q,w8.heap.size = q := ⟨_,rfl⟩;rw [hbn] at HB12 HLb12 ⊢;clear hbn HLz hnf;go_upto_if 50 with fail
 go_cut [11,13] from 51 to 66 (fun u v wr => u = .int .i64 0 ∧ v = .int .i64 0 ∧ ∃ Fx Fy,zhc w1.heap.size g1 Fx (PB entry) w2.heap.size g2 Fy (PB entry) wr ∧ Go2 (zbg F1 F2) w3 (zbg Fx Fy) wr ∧ (Blk wr b10 57 (rgC (RB entry)).toArray ∧ ¬ zbg Fx Fy b10) ∧ (Blk wr b12 57 (rgC (RB entry)).toArray ∧ ¬ zbg Fx Fy b12) ∧ (Blk wr bp 24 #[.int .i64 c,.slice A n cap] ∧ ¬ zbg Fx Fy bp) ∧ (Blk wr gv 31 (zgy V).toArray ∧ ¬ zbg Fx Fy gv) ∧ Blk wr bx 56 #[.pointer (some ⟨g1,0,none⟩),.pointer (some ⟨g2,0,none⟩),.slice (some ⟨gv,0,none⟩) 260 260] ∧ ¬ zbg Fx Fy bx)
 case first =>
  as_aux_lemma =>
   cases entry
   ·go_wp2
    go_meet
    case rel => exact ⟨rfl,rfl,Fa,Fb,HT.out,HGO.out,HB10.out,HB12.out,HBP.out,HVB.out,HBX.out⟩
   ·skip
    have x0 : w9.cell? ⟨bx,0,none⟩ = some (.pointer (some ⟨g1,0,none⟩)) := HBX.out.1.cell 0;go_wp2_with fail
    refine (zmm HT.out.a HT.out.h1).mono ?_;rintro e w10 ⟨rfl,Fa2,hp⟩;rw [zjq] at hp ⊢;obtain ⟨htw,hgo⟩ := HT.out.left hp;replace HBP := Hd (hgo.blk HBP.out)
    replace HVB := Hd (hgo.blk HVB.out)
    replace HBX := Hd (hgo.blk HBX.out)
    replace HB10 := Hd (hgo.blk HB10.out)
    replace HB12 := Hd (hgo.blk HB12.out)
    replace HGO := Hd (HGO.out.trans hgo)
    replace HT := Hd htw
    clear htw hgo;clear hp x0;go_upto_region 8 with (first
     | (refine zaa rfl 57 (.tmp 10) (.tmp 57) rfl b10 0 57 (rgC R0) (rgC R2) (.agg (rgC R2).toArray) HB10.out.1 (by rfl) (by rfl) rfl zee (by simp [rgC,R0,R2]) (zb9 _) ?_
        intro w11 hBq hgq hsq;have HBq := Hd hBq
        have HGq := Hd hgq
        clear hBq hgq hsq)
     | fail)
    have hch := Chg.of_grown (F := fun k => k = b10) HGq.out (fun k e => .inl (by injection e with e; exact e.symm));have HCH := Hd hch
    replace HB10 := Hd (show Blk w11 b10 57 (rgC R2).toArray ∧ ¬ (zbg Fa2 Fb) b10 from ⟨by have h1 := HBq.out; rw [zeP (by simp [rgC,R0,R2])] at h1; exact h1,HB10.out.2⟩)
    replace HBP := Hd (ztp (HCH.out.blk HBP.out.1 (fun e => by have := HLb10.out; have e : bp = b10 := e; omega)) HBP.out.2)
    replace HVB := Hd (ztp (HCH.out.blk HVB.out.1 (fun e => by have := HLb10.out; have e : gv = b10 := e; omega)) HVB.out.2)
    replace HBX := Hd (ztp (HCH.out.blk HBX.out.1 (fun e => by have := HLb10.out; have e : bx = b10 := e; omega)) HBX.out.2)
    replace HB12 := Hd (ztp (HCH.out.blk HB12.out.1 (fun e => by have := HLb12.out; have e : b12 = b10 := e; omega)) HB12.out.2)
    replace HT := Hd (HT.out.far HCH.out (fun k q e => HB10.out.2 (by have e : k = b10 := e; exact e ▸ q)))
    replace HGO := Hd (HGO.out.own (b := b10) (by have := HLb10.out; omega) HCH.out)
    clear hch HCH HBq HGq;have x1 : w11.cell? ⟨bx,1,none⟩ = some (.pointer (some ⟨g2,0,none⟩)) := HBX.out.1.cell 1;go_wp2_with fail
    refine (zkE HT.out.b HT.out.h2).mono ?_;rintro e w12 ⟨rfl,Fb2,hp⟩;rw [zjq] at hp ⊢;obtain ⟨htw,hgo⟩ := HT.out.right hp;replace HBP := Hd (hgo.blk HBP.out)
    replace HVB := Hd (hgo.blk HVB.out)
    replace HBX := Hd (hgo.blk HBX.out)
    replace HB10 := Hd (hgo.blk HB10.out)
    replace HB12 := Hd (hgo.blk HB12.out)
    replace HGO := Hd (HGO.out.trans hgo)
    replace HT := Hd htw
    clear htw hgo;clear hp x1;go_wp2_with (first
     | (refine zaa rfl 57 (.tmp 12) (.tmp 65) rfl b12 0 57 (rgC R0) (rgC R2) (.agg (rgC R2).toArray) HB12.out.1 (by rfl) (by rfl) rfl zee (by simp [rgC,R0,R2]) (zb9 _) ?_
        intro w13 hBq hgq hsq;have HBq := Hd hBq
        have HGq := Hd hgq
        clear hBq hgq hsq)
     | fail)
    have hch := Chg.of_grown (F := fun k => k = b12) HGq.out (fun k e => .inl (by injection e with e; exact e.symm));have HCH := Hd hch
    replace HB12 := Hd (show Blk w13 b12 57 (rgC R2).toArray ∧ ¬ (zbg Fa2 Fb2) b12 from ⟨by have h1 := HBq.out; rw [zeP (by simp [rgC,R0,R2])] at h1; exact h1,HB12.out.2⟩)
    replace HBP := Hd (ztp (HCH.out.blk HBP.out.1 (fun e => by have := HLb12.out; have e : bp = b12 := e; omega)) HBP.out.2)
    replace HVB := Hd (ztp (HCH.out.blk HVB.out.1 (fun e => by have := HLb12.out; have e : gv = b12 := e; omega)) HVB.out.2)
    replace HBX := Hd (ztp (HCH.out.blk HBX.out.1 (fun e => by have := HLb12.out; have e : bx = b12 := e; omega)) HBX.out.2)
    replace HB10 := Hd (ztp (HCH.out.blk HB10.out.1 (fun e => by have := HLb12.out; have e : b10 = b12 := e; omega)) HB10.out.2)
    replace HT := Hd (HT.out.far HCH.out (fun k q e => HB12.out.2 (by have e : k = b12 := e; exact e ▸ q)))
    replace HGO := Hd (HGO.out.own (b := b12) (by have := HLb12.out; omega) HCH.out)
    clear hch HCH HBq HGq;go_meet
    case rel => exact ⟨rfl,rfl,Fa2,Fb2,HT.out,HGO.out,HB10.out,HB12.out,HBP.out,HVB.out,HBX.out⟩
 case rest =>
  rename World => wr
  obtain ⟨rfl,rfl,Fx,Fy,htw,hgo,h3,h4,h5,h6,h7⟩ := hcut;clear HT HGO HB10 HB12 HBP HVB HBX HI HLb10 HLb12;have HT := Hd htw
  have HGO := Hd hgo
  have HB10 := Hd h3
  have HB12 := Hd h4
  have HBP := Hd h5
  have HVB := Hd h6
  have HBX := Hd h7
  have HI := Hd (show ze9 wr (zbg Fx Fy) A n l from ze9.of_ins (HI00.out.below (HB1.out.trans (HGO.out.chg.below (B := w1.heap.size) (fun b q => HF.out b q) HB1.out.size))) (zto HB1.out.size HGO.out.chg.size) (fun k q => (HGO.out.new k q).elim (HF.out k) (fun e => zto HV3.out e)))
  clear htw hgo h3 h4 h5 h6 h7;have hrr : ∀ r ∈ (RB entry),I64 r := fun r hr => zap (zlg entry).1 ((zlg entry).2.2 r hr)
  have HRR := Hd hrr
  have HLx := Hd (znY (PB entry) c l block (k := 1950) (zra entry))
  have HPR := Hd (show zrl V (zgn (PB entry) c l block (RB entry)) (zdx (PB entry) c l block (RB entry)) from zrc HVU.out.2 (by rw [HVU.out.1]; omega) entry c l block)
  obtain ⟨x,hx⟩ : ∃ q,zgn (PB entry) c l block (RB entry) = q := ⟨_,rfl⟩;obtain ⟨y,hy⟩ : ∃ q,zdx (PB entry) c l block (RB entry) = q := ⟨_,rfl⟩;rw [hx] at HLx HPR;rw [hy] at HPR;have HSR := Hd (fun (W : World) (F : Nat → Prop) (h : zam W w1.heap.size F g1 (PB entry)) (hb : w1.heap.size ≤ W.heap.size) (hi : ze9 W F A n l) => by
   have := zjn h hb c A n cap l hi HN.out.1 HN.out.2 block HBK.out (RB entry) (zpk entry) HRR.out;rw [hx] at this;exact this)
  have HSY := Hd (fun (W : World) (F : Nat → Prop) (h : zaO W w2.heap.size F g2 (PB entry)) (hb : w2.heap.size ≤ W.heap.size) (hi : ze9 W F A n l) => by
   have := zn0 h hb c A n cap l hi HN.out.1 HN.out.2 block HBK.out (RB entry) (zpk entry) HRR.out (fun h1 h2 => zsL (k := 1950) (zra entry) h1 h2);rw [hy] at this;unfold RunR at this;simp only [HPR.out.regs,HPR.out.ex,HPR.out.err,HPR.out.evs] at this;exact this)
  clear hx hy hrr HRR;have HIE := Hd (show ze9 wr Fx A n l from HI.out.chg (H := fun _ => False) (Chg.refl _ _) (fun b q => q.elim) (fun b q => .inl (.inl q)))
  have HSF := Hd (fun (Wx : World) (hc : Below wr.heap.size wr Wx) => (⟨(HBX.out.1.below hc HBX.out.1.lt).cell 0,zak (HBP.out.1.below hc HBP.out.1.lt),zak (HB10.out.1.below hc HB10.out.1.lt)⟩ : Wx.cell? ⟨bx,0,none⟩ = some (.pointer (some ⟨g1,0,none⟩)) ∧ (∀ j u,[Value.int .i64 c,.slice A n cap][j]? = some u → Wx.cell? ((⟨bp,0,none⟩ : Addr).add j) = some u) ∧ ∀ j u,(rgC (RB entry))[j]? = some u → Wx.cell? ((⟨b10,0,none⟩ : Addr).add j) = some u))
  go_upto_region 11 with fail
  apply zfD (J := fun b14 es1 w' => ∃ Fc,zhc w1.heap.size g1 Fc x.p w2.heap.size g2 Fy (PB entry) w' ∧ Go2 (zbg Fx Fy) wr (zbg Fc Fy) w' ∧ zbt w' (zbg Fc Fy) es1 x.evs ∧ es1.oneCell' = true ∧ Blk w' b14 65 (zcF x.regs es1 x.ex).toArray ∧ ¬ (zbg Fc Fy) b14 ∧ wr.heap.size ≤ b14)
  case h1 =>
   refine zac (fun _ => True) (fun Wx => Wx.cell? ⟨bx,0,none⟩ = some (.pointer (some ⟨g1,0,none⟩)) ∧ (∀ j u,[Value.int .i64 c,.slice A n cap][j]? = some u → Wx.cell? ((⟨bp,0,none⟩ : Addr).add j) = some u) ∧ ∀ j u,(rgC (RB entry))[j]? = some u → Wx.cell? ((⟨b10,0,none⟩ : Addr).add j) = some u) [7] (by kernel_rfl) ?_;have HQ := Hd ((Below.refl wr.heap.size wr).drew)
   have HS := Hd (HSF.out _ HQ.out)
   generalize wr.drew = Wd at HQ HS ⊢;refine em 0 (.pointer (some ⟨bx,0,none⟩)) (.both trivial HS.out) ?_;refine ez 1 ⟨bx,0,none⟩ (.both trivial HS.out) ?_;refine ef 2 ⟨bx,0,none⟩ ⟨bx,0,none⟩ (.both trivial HS.out) ?_;refine el true 3 ⟨bx,0,none⟩ (.pointer (some ⟨g1,0,none⟩)) underlying50 (fun w hS => (hS.2 rfl).1) (.both trivial HS.out) ?_;refine eL true 4 ⟨bp,0,none⟩ [Value.int .i64 c,.slice A n cap] (fun w hS => (hS.2 rfl).2.1) underlying24 zrd (.both trivial HS.out) ?_;refine em 5 (.int .i64 block) (.both trivial HS.out) ?_;refine eL true 6 ⟨b10,0,none⟩ (rgC (RB entry)) (fun w hS => (hS.2 rfl).2.2) underlying57 (zrb entry) (.both trivial HS.out) ?_;refine zod 7 11 (by kernel_rfl) ?_ ?_
   ·skip
    refine zar.of 7 (some 81) _ rfl (by rfl) fun o K h2 h3 hKK => ?_
    unfold Oper.wp execOp;simp only [h3];go_simp;refine (HSR.out _ _ (HT.out.step HQ.out).a (HT.out.step HQ.out).h1 (HIE.out.step HQ.out)).mono ?_;rintro e wa ⟨es1,Fc,rfl,hp,hev,ho⟩;obtain ⟨htw,hgo⟩ := (HT.out.step HQ.out).left hp;dsimp only;refine hKK _ _ (.after trivial (by kernel_rfl)) ?_;clear hKK h2 h3 K o;try simp only [pt,pn,sL]
    refine em 8 (.tuple #[.agg (zcF x.regs es1 x.ex).toArray,.int .i64 x.err]) (.after trivial (by kernel_rfl)) ?_;refine eg 9 (.agg (zcF x.regs es1 x.ex).toArray) (.after trivial (by kernel_rfl)) ?_;refine eg 10 (.int .i64 x.err) (.after trivial (by kernel_rfl)) ?_;have hol : ∀ k,Fy k → k < Wd.heap.size := fun k q => (HT.out.step HQ.out).lt1 (.inr q)
    refine zaN 11 (by kernel_rfl) ?_;refine zar.run 11 (some 14) _ (.pointer (some ⟨wa.heap.size,0,none⟩)) (wa.alloc (.cells zaq.toArray 65)) rfl (by rfl) (fun o e => by have zs := zgY; unfold execOp; simp only [e]; go_simp) (.after trivial (by kernel_rfl)) ?_;simp only [pt,pn,sL];have hal : Below wa.heap.size wa (wa.alloc (.cells zaq.toArray 65)) := (Below.refl _ _).alloc (ztn _) _;have hZ := Blk.new wa 65 zaq.toArray;have hnz : ¬ (zbg Fc Fy) wa.heap.size := fun q => by have := htw.lt1 q; omega
    have hge : wr.heap.size ≤ wa.heap.size := zto HQ.out.size hgo.chg.size;replace hgo := ((Go2.below HQ.out).trans hgo).trans (Go2.below hal);replace htw := htw.step hal;replace hev := hev.chg (G := fun k => (zbg Fc Fy) k ∨ k = wa.heap.size) (Chg.of_below hal) (fun k q => .inr q) (fun k q => q.elim (fun q => .inl (q.elim (fun r => .inl r) (fun r => .inr (hol k r)))) (fun e => .inr (by omega)));obtain ⟨W3,hW3⟩ : ∃ q,wa.alloc (.cells zaq.toArray 65) = q := ⟨_,rfl⟩;rw [hW3] at hZ hgo htw hev ⊢;clear hal hW3;obtain ⟨b14,hbn⟩ : ∃ q,wa.heap.size = q := ⟨_,rfl⟩;rw [hbn] at hZ hnz hge hev ⊢;refine zaN 12 (by kernel_rfl) (zar.store_whole 12 65 _ _ b14 zaq (zcF x.regs es1 x.ex) rfl (by rfl) hZ (by rfl) (by rfl) (by rw [zb7 HLx.out]; exact zeE) (by rw [zb7 HLx.out]; rfl) (zdf ho _) ?_);intro W4 hB4 hg4;refine ⟨(.after trivial (by kernel_rfl)),?_⟩;simp only [pt,pn,sL];refine zaN 13 (by kernel_rfl) (zar.assign 13 (some 15) _ (.int .i64 x.err) rfl (by rfl) (by rfl) (.after trivial (by kernel_rfl)) ?_);simp only [pt,pn,sL];refine zab (by kernel_rfl) ?_ _;have hch := Chg.of_grown (F := fun k => k = b14) hg4 (fun k e => .inl (by injection e with e; exact e.symm));exact ⟨b14,es1,⟨Fc,htw.far hch (fun k q e => hnz (by have e : k = b14 := e; exact e ▸ q)),hgo.own hge hch,hev.chg (G := (zbg Fc Fy)) hch (fun k e => .inl (.inr e)) (fun k q => .inl (.inl q)),ho,hB4,hnz,hge⟩,rfl⟩
   ·skip
    refine zar.run 11 (some 14) _ (.pointer (some ⟨Wd.heap.size,0,none⟩)) (Wd.alloc (.cells zaq.toArray 65)) rfl (by rfl) (fun o e => by have zs := zgY; unfold execOp; simp only [e]; go_simp) (.both trivial (HSF.out _ (HQ.out.alloc HQ.out.size _))) ?_;simp only [pt,pn,sL];have hal : Below Wd.heap.size Wd (Wd.alloc (.cells zaq.toArray 65)) := (Below.refl _ _).alloc (ztn _) _;have hZ := Blk.new Wd 65 zaq.toArray;have hge : wr.heap.size ≤ Wd.heap.size := HQ.out.size;have HQ2 := Hd (HQ.out.trans (hal.mono HQ.out.size))
    obtain ⟨W2,hW2⟩ : ∃ q,Wd.alloc (.cells zaq.toArray 65) = q := ⟨_,rfl⟩;rw [hW2] at hZ HQ2 ⊢;clear hal hW2;have hnz0 : ¬ (zbg Fx Fy) Wd.heap.size := fun q => by have := (HT.out.step HQ.out).lt1 q; omega
    obtain ⟨b14,hbn⟩ : ∃ q,Wd.heap.size = q := ⟨_,rfl⟩;rw [hbn] at hZ hge hnz0 ⊢;have hlt := hZ.lt;refine zaN 7 (by kernel_rfl) ?_;refine zar.of 7 (some 81) _ rfl (by rfl) fun o K h2 h3 hKK => ?_
    unfold Oper.wp execOp;simp only [h3];go_simp;refine (HSR.out _ _ (HT.out.step HQ2.out).a (HT.out.step HQ2.out).h1 (HIE.out.step HQ2.out)).mono ?_;rintro e wa ⟨es1,Fc,rfl,hp,hev,ho⟩;obtain ⟨htw,hgo⟩ := (HT.out.step HQ2.out).left hp;dsimp only;refine hKK _ _ (.after trivial (by kernel_rfl)) ?_;clear hKK h2 h3 K o;try simp only [pt,pn,sL]
    refine em 8 (.tuple #[.agg (zcF x.regs es1 x.ex).toArray,.int .i64 x.err]) (.after trivial (by kernel_rfl)) ?_;refine eg 9 (.agg (zcF x.regs es1 x.ex).toArray) (.after trivial (by kernel_rfl)) ?_;refine eg 10 (.int .i64 x.err) (.after trivial (by kernel_rfl)) ?_;have hol : ∀ k,Fy k → k < W2.heap.size := fun k q => (HT.out.step HQ2.out).lt1 (.inr q)
    obtain ⟨hZ,hnz⟩ := hgo.blk ⟨hZ,hnz0⟩;replace hgo := (Go2.below HQ2.out).trans hgo;replace hev := hev.less (F := fun k => (zbg Fc Fy) k ∨ k = b14) (fun k q => q.elim (fun q => q.elim (fun r => .inl r) (fun r => .inr (hol k r))) (fun e => .inr (by omega)));refine zaN 12 (by kernel_rfl) (zar.store_whole 12 65 _ _ b14 zaq (zcF x.regs es1 x.ex) rfl (by rfl) hZ (by rfl) (by rfl) (by rw [zb7 HLx.out]; exact zeE) (by rw [zb7 HLx.out]; rfl) (zdf ho _) ?_);intro W4 hB4 hg4;refine ⟨(.after trivial (by kernel_rfl)),?_⟩;simp only [pt,pn,sL];refine zaN 13 (by kernel_rfl) (zar.assign 13 (some 15) _ (.int .i64 x.err) rfl (by rfl) (by rfl) (.after trivial (by kernel_rfl)) ?_);simp only [pt,pn,sL];refine zab (by kernel_rfl) ?_ _;have hch := Chg.of_grown (F := fun k => k = b14) hg4 (fun k e => .inl (by injection e with e; exact e.symm));exact ⟨b14,es1,⟨Fc,htw.far hch (fun k q e => hnz (by have e : k = b14 := e; exact e ▸ q)),hgo.own hge hch,hev.chg (G := (zbg Fc Fy)) hch (fun k e => .inl (.inr e)) (fun k q => .inl (.inl q)),ho,hB4,hnz,hge⟩,rfl⟩
  case h2 =>
  rintro b14 es1 w14 ⟨Fc,htw,hgo,hev,ho,hb1,hb2,_⟩;replace HBP := Hd (hgo.blk HBP.out)
  replace HVB := Hd (hgo.blk HVB.out)
  replace HBX := Hd (hgo.blk HBX.out)
  replace HB10 := Hd (hgo.blk HB10.out)
  replace HB12 := Hd (hgo.blk HB12.out)
  replace HI := Hd (hgo.ins HI.out)
  replace HGO := Hd (HGO.out.trans hgo)
  replace HT := Hd htw
  have HEVx := Hd hev
  have HB14 := Hd (ztp hb1 hb2)
  clear htw hgo hev ho hb1 hb2 HIE HSF HSR;have HSR := Hd HSY.out
  clear HSY;have HIE := Hd (show ze9 w14 Fy A n l from HI.out.chg (H := fun _ => False) (Chg.refl _ _) (fun b q => q.elim) (fun b q => .inl (.inr q)))
  have HSF := Hd (fun (Wx : World) (hc : Below w14.heap.size w14 Wx) => (⟨(HBX.out.1.below hc HBX.out.1.lt).cell 1,zak (HBP.out.1.below hc HBP.out.1.lt),zak (HB12.out.1.below hc HB12.out.1.lt)⟩ : Wx.cell? ⟨bx,1,none⟩ = some (.pointer (some ⟨g2,0,none⟩)) ∧ (∀ j u,[Value.int .i64 c,.slice A n cap][j]? = some u → Wx.cell? ((⟨bp,0,none⟩ : Addr).add j) = some u) ∧ ∀ j u,(rgC (RB entry))[j]? = some u → Wx.cell? ((⟨b12,0,none⟩ : Addr).add j) = some u))
  go_upto_region 12 with fail
  apply zfD (J := fun b16 es2 w' => ∃ Fd,zhc w1.heap.size g1 Fc x.p w2.heap.size g2 Fd y.p w' ∧ Go2 (zbg Fc Fy) w14 (zbg Fc Fd) w' ∧ zbt w' (zbg Fc Fd) es2 x.evs ∧ es2.oneCell' = true ∧ Blk w' b16 65 (zcF x.regs es2 x.ex).toArray ∧ ¬ (zbg Fc Fd) b16 ∧ w14.heap.size ≤ b16)
  case h1 =>
   refine zac (fun _ => True) (fun Wx => Wx.cell? ⟨bx,1,none⟩ = some (.pointer (some ⟨g2,0,none⟩)) ∧ (∀ j u,[Value.int .i64 c,.slice A n cap][j]? = some u → Wx.cell? ((⟨bp,0,none⟩ : Addr).add j) = some u) ∧ ∀ j u,(rgC (RB entry))[j]? = some u → Wx.cell? ((⟨b12,0,none⟩ : Addr).add j) = some u) [7] (by kernel_rfl) ?_;have HQ := Hd ((Below.refl w14.heap.size w14).drew)
   have HS := Hd (HSF.out _ HQ.out)
   generalize w14.drew = Wd at HQ HS ⊢;refine em 0 (.pointer (some ⟨bx,0,none⟩)) (.both trivial HS.out) ?_;refine ez 1 ⟨bx,0,none⟩ (.both trivial HS.out) ?_;refine ef 2 ⟨bx,0,none⟩ ⟨bx,1,none⟩ (.both trivial HS.out) ?_;refine el true 3 ⟨bx,1,none⟩ (.pointer (some ⟨g2,0,none⟩)) underlying52 (fun w hS => (hS.2 rfl).1) (.both trivial HS.out) ?_;refine eL true 4 ⟨bp,0,none⟩ [Value.int .i64 c,.slice A n cap] (fun w hS => (hS.2 rfl).2.1) underlying24 zrd (.both trivial HS.out) ?_;refine em 5 (.int .i64 block) (.both trivial HS.out) ?_;refine eL true 6 ⟨b12,0,none⟩ (rgC (RB entry)) (fun w hS => (hS.2 rfl).2.2) underlying57 (zrb entry) (.both trivial HS.out) ?_;refine zod 7 11 (by kernel_rfl) ?_ ?_
   ·skip
    refine zar.of 7 (some 92) _ rfl (by rfl) fun o K h2 h3 hKK => ?_
    unfold Oper.wp execOp;simp only [h3];go_simp;refine (HSR.out _ _ (HT.out.step HQ.out).b (HT.out.step HQ.out).h2 (HIE.out.step HQ.out)).mono ?_;rintro e wa ⟨es2,Fd,rfl,hp,hev,ho⟩;obtain ⟨htw,hgo⟩ := (HT.out.step HQ.out).right hp;dsimp only;refine hKK _ _ (.after trivial (by kernel_rfl)) ?_;clear hKK h2 h3 K o;try simp only [pt,pn,sL]
    refine em 8 (.tuple #[.agg (zcF x.regs es2 x.ex).toArray,.int .i64 x.err]) (.after trivial (by kernel_rfl)) ?_;refine eg 9 (.agg (zcF x.regs es2 x.ex).toArray) (.after trivial (by kernel_rfl)) ?_;refine eg 10 (.int .i64 x.err) (.after trivial (by kernel_rfl)) ?_;have hol : ∀ k,Fc k → k < Wd.heap.size := fun k q => (HT.out.step HQ.out).lt1 (.inl q)
    refine zaN 11 (by kernel_rfl) ?_;refine zar.run 11 (some 16) _ (.pointer (some ⟨wa.heap.size,0,none⟩)) (wa.alloc (.cells zaq.toArray 65)) rfl (by rfl) (fun o e => by have zs := zgY; unfold execOp; simp only [e]; go_simp) (.after trivial (by kernel_rfl)) ?_;simp only [pt,pn,sL];have hal : Below wa.heap.size wa (wa.alloc (.cells zaq.toArray 65)) := (Below.refl _ _).alloc (ztn _) _;have hZ := Blk.new wa 65 zaq.toArray;have hnz : ¬ (zbg Fc Fd) wa.heap.size := fun q => by have := htw.lt1 q; omega
    have hge : w14.heap.size ≤ wa.heap.size := zto HQ.out.size hgo.chg.size;replace hgo := ((Go2.below HQ.out).trans hgo).trans (Go2.below hal);replace htw := htw.step hal;replace hev := hev.chg (G := fun k => (zbg Fc Fd) k ∨ k = wa.heap.size) (Chg.of_below hal) (fun k q => .inr q) (fun k q => q.elim (fun q => .inl (q.elim (fun r => .inr (hol k r)) (fun r => .inl r))) (fun e => .inr (by omega)));obtain ⟨W3,hW3⟩ : ∃ q,wa.alloc (.cells zaq.toArray 65) = q := ⟨_,rfl⟩;rw [hW3] at hZ hgo htw hev ⊢;clear hal hW3;obtain ⟨b16,hbn⟩ : ∃ q,wa.heap.size = q := ⟨_,rfl⟩;rw [hbn] at hZ hnz hge hev ⊢;refine zaN 12 (by kernel_rfl) (zar.store_whole 12 65 _ _ b16 zaq (zcF x.regs es2 x.ex) rfl (by rfl) hZ (by rfl) (by rfl) (by rw [zb7 HLx.out]; exact zeE) (by rw [zb7 HLx.out]; rfl) (zdf ho _) ?_);intro W4 hB4 hg4;refine ⟨(.after trivial (by kernel_rfl)),?_⟩;simp only [pt,pn,sL];refine zaN 13 (by kernel_rfl) (zar.assign 13 (some 17) _ (.int .i64 x.err) rfl (by rfl) (by rfl) (.after trivial (by kernel_rfl)) ?_);simp only [pt,pn,sL];refine zab (by kernel_rfl) ?_ _;have hch := Chg.of_grown (F := fun k => k = b16) hg4 (fun k e => .inl (by injection e with e; exact e.symm));exact ⟨b16,es2,⟨Fd,htw.far hch (fun k q e => hnz (by have e : k = b16 := e; exact e ▸ q)),hgo.own hge hch,hev.chg (G := (zbg Fc Fd)) hch (fun k e => .inl (.inr e)) (fun k q => .inl (.inl q)),ho,hB4,hnz,hge⟩,rfl⟩
   ·skip
    refine zar.run 11 (some 16) _ (.pointer (some ⟨Wd.heap.size,0,none⟩)) (Wd.alloc (.cells zaq.toArray 65)) rfl (by rfl) (fun o e => by have zs := zgY; unfold execOp; simp only [e]; go_simp) (.both trivial (HSF.out _ (HQ.out.alloc HQ.out.size _))) ?_;simp only [pt,pn,sL];have hal : Below Wd.heap.size Wd (Wd.alloc (.cells zaq.toArray 65)) := (Below.refl _ _).alloc (ztn _) _;have hZ := Blk.new Wd 65 zaq.toArray;have hge : w14.heap.size ≤ Wd.heap.size := HQ.out.size;have HQ2 := Hd (HQ.out.trans (hal.mono HQ.out.size))
    obtain ⟨W2,hW2⟩ : ∃ q,Wd.alloc (.cells zaq.toArray 65) = q := ⟨_,rfl⟩;rw [hW2] at hZ HQ2 ⊢;clear hal hW2;have hnz0 : ¬ (zbg Fc Fy) Wd.heap.size := fun q => by have := (HT.out.step HQ.out).lt1 q; omega
    obtain ⟨b16,hbn⟩ : ∃ q,Wd.heap.size = q := ⟨_,rfl⟩;rw [hbn] at hZ hge hnz0 ⊢;have hlt := hZ.lt;refine zaN 7 (by kernel_rfl) ?_;refine zar.of 7 (some 92) _ rfl (by rfl) fun o K h2 h3 hKK => ?_
    unfold Oper.wp execOp;simp only [h3];go_simp;refine (HSR.out _ _ (HT.out.step HQ2.out).b (HT.out.step HQ2.out).h2 (HIE.out.step HQ2.out)).mono ?_;rintro e wa ⟨es2,Fd,rfl,hp,hev,ho⟩;obtain ⟨htw,hgo⟩ := (HT.out.step HQ2.out).right hp;dsimp only;refine hKK _ _ (.after trivial (by kernel_rfl)) ?_;clear hKK h2 h3 K o;try simp only [pt,pn,sL]
    refine em 8 (.tuple #[.agg (zcF x.regs es2 x.ex).toArray,.int .i64 x.err]) (.after trivial (by kernel_rfl)) ?_;refine eg 9 (.agg (zcF x.regs es2 x.ex).toArray) (.after trivial (by kernel_rfl)) ?_;refine eg 10 (.int .i64 x.err) (.after trivial (by kernel_rfl)) ?_;have hol : ∀ k,Fc k → k < W2.heap.size := fun k q => (HT.out.step HQ2.out).lt1 (.inl q)
    obtain ⟨hZ,hnz⟩ := hgo.blk ⟨hZ,hnz0⟩;replace hgo := (Go2.below HQ2.out).trans hgo;replace hev := hev.less (F := fun k => (zbg Fc Fd) k ∨ k = b16) (fun k q => q.elim (fun q => q.elim (fun r => .inr (hol k r)) (fun r => .inl r)) (fun e => .inr (by omega)));refine zaN 12 (by kernel_rfl) (zar.store_whole 12 65 _ _ b16 zaq (zcF x.regs es2 x.ex) rfl (by rfl) hZ (by rfl) (by rfl) (by rw [zb7 HLx.out]; exact zeE) (by rw [zb7 HLx.out]; rfl) (zdf ho _) ?_);intro W4 hB4 hg4;refine ⟨(.after trivial (by kernel_rfl)),?_⟩;simp only [pt,pn,sL];refine zaN 13 (by kernel_rfl) (zar.assign 13 (some 17) _ (.int .i64 x.err) rfl (by rfl) (by rfl) (.after trivial (by kernel_rfl)) ?_);simp only [pt,pn,sL];refine zab (by kernel_rfl) ?_ _;have hch := Chg.of_grown (F := fun k => k = b16) hg4 (fun k e => .inl (by injection e with e; exact e.symm));exact ⟨b16,es2,⟨Fd,htw.far hch (fun k q e => hnz (by have e : k = b16 := e; exact e ▸ q)),hgo.own hge hch,hev.chg (G := (zbg Fc Fd)) hch (fun k e => .inl (.inr e)) (fun k q => .inl (.inl q)),ho,hB4,hnz,hge⟩,rfl⟩
  case h2 =>
  rintro b16 es2 w17 ⟨Fd,htw,hgo,hev,ho,hb1,hb2,_⟩;replace HBP := Hd (hgo.blk HBP.out)
  replace HVB := Hd (hgo.blk HVB.out)
  replace HBX := Hd (hgo.blk HBX.out)
  replace HB10 := Hd (hgo.blk HB10.out)
  replace HB12 := Hd (hgo.blk HB12.out)
  replace HB14 := Hd (hgo.blk HB14.out)
  replace HI := Hd (hgo.ins HI.out)
  replace HEVx := Hd (hgo.evs HEVx.out)
  replace HGO := Hd (HGO.out.trans hgo)
  replace HT := Hd htw
  have HEVy := Hd hev
  have HB16 := Hd (ztp hb1 hb2)
  clear htw hgo hev ho hb1 hb2 HIE HSF HSR;have HUP := Hd (show Below w.heap.size w w17 from HW.out.trans ((HB1.out.mono HW.out.size).trans (HGO.out.chg.below (B := w.heap.size) (fun b q => zto HW.out.size (HF.out b q)) (zto HW.out.size HB1.out.size))))
  obtain ⟨er,her⟩ : ∃ q,x.err = q := ⟨_,rfl⟩;rw [her];have HER := Hd her
  clear her HGO HW HF HB1 HI HBP HB10 HB12 HBK HN
  cases hz : (er != 0)
  ·have he0 : er = 0 := by simpa using hz
   subst he0;have HBW := Hd (show ziH w17 _ g1 Fc x.p _ g2 Fd y.p bx gv V from ⟨HT.out,HBX.out.1,HVB.out.1,HVU.out.1,HVU.out.2,HPR.out.up⟩)
   have HSR := Hd (zoe HBW.out HLx.out HPR.out.few HEVx.out HEVy.out (HPR.out.reg HER.out) (HPR.out.ev HER.out) (HPR.out.exv HER.out))
   clear HT HBX HVB;go_wp2_with (first
    | (refine zc4 (by rfl) 65 (.tmp 14) rfl ⟨b14,0,none⟩ (by rfl) (zcF x.regs es1 x.ex) _ (zak HB14.out.1) underlying65 rfl (by rw [zb7 HLx.out]; exact zeE) ?_)
    | (refine zc4 (by rfl) 65 (.tmp 16) rfl ⟨b16,0,none⟩ (by rfl) (zcF x.regs es2 x.ex) _ (zak HB16.out.1) underlying65 rfl (by rw [zb7 HLx.out]; exact zeE) ?_)
    | fail)
   refine HSR.out.mono ?_;rintro e w18 ⟨rfl,hb⟩;replace HUP := Hd (HUP.out.trans (hb.mono HUP.out.size))
   clear hb;go_wp2_with fail
   refine (zeo _).mono ?_;rintro e w20 ⟨rfl,hb⟩;have HQ := Hd hb
   clear hb;go_wp2;go_ret;exact ⟨rfl,HUP.out.trans (HQ.out.mono HUP.out.size)⟩
  ·go_wp2_with fail
   refine (zeo _).mono ?_;rintro e w20 ⟨rfl,hb⟩;have HQ := Hd hb
   clear hb;go_wp2;go_ret;exact ⟨rfl,HUP.out.trans (HQ.out.mono HUP.out.size)⟩
theorem znJ (c : Int)(A : Option Addr)(n cap : Nat)(l : List ID)(block : Int)(entry : Bool)(A2 : Option Addr)(n2 c2 : Nat)(l2 : List Int)(hb : (Lit.int .i64 block).wf = true)(w : World)(hh : zcJ w w.heap.size A n l)(hc : n ≤ cap)(hm : n < 9223372036854775808)
  (hr2 : zaU w w.heap.size 1 A2 n2 (l2.map (Value.int .u64))) (hl2 : l2.length = n2) (hc2 : n2 ≤ c2) (hm2 : n2 < 9223372036854775808) :
  Calls prog 4 #[.agg #[.int .i64 c,.slice A n cap],.int .i64 block,.bool entry,.slice A2 n2 c2] w fun e w' => e = .returned (.bool true) ∧ Below w.heap.size w w' :=
 zlh c A n cap l block entry A2 n2 c2 l2 w hh hc hm (by have := bounds_i64 hb; unfold I64; omega) hr2 hl2 hc2 hm2
end Go.Proofs.YtepagfkkjlbipaaGreat
