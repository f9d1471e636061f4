/-
  Parts of the proof of SymbcRuns. Conditions: those written in each statement.
-/
import Derived.Test.YtepagfkkjlbipaaGreatKay
set_option linter.unusedVariables false
set_option linter.unusedSimpArgs false
set_option maxHeartbeats 64000000
set_option maxRecDepth 100000
namespace Go.Proofs.YtepagfkkjlbipaaGreat
open Go.RowKit
open Tryz
section
section
variable {base g b : Nat}{F G F1 G1 : Nat → Prop}{m : SM}{ex : ExD}{w : World}
theorem zp4 {P : Program}{ops : Array Oper}{Q : Exit → Act → World → Prop}{md : Region.Mode}{T S : World → Prop}{late : List Nat}{fuel : Nat}{listed : Array Bool}{a : Act}{w : World}(i : Nat)(d : Option Tmp)(t : TypeId)(x lo hi : Operand)(vx vl vh v : Value)(ho : zc6 ops i = some (d,.slice t x (some lo) (some hi) none))(hc : zbv md ops late listed i false = true)(hw : zaS ops i a = some true)
  (hQ : ∀ c a w,Q (.panic c) (a.put d v) w → Q (.panic c) a w) (hx : a.eval x = vx) (hl : a.eval lo = vl) (hh : a.eval hi = vh) (hr : ∀ w,(Instr.sliceAt t vx (some vl) (some vh) none).run P w = .ok v w)
  (hS : St T S late listed w) (h : zas P md ops Q T S late fuel (listed.setIfInBounds i true) (a.put d v) w) : zas P md ops Q T S late (fuel + 1) listed a w :=
 zd8 false i d _ _ ho hc hw hQ (fun o e w _ => by
  unfold execOp;simp only [e,hx,hl,hh,Option.map_some,Option.map_none,Sem.run_bind,hr,Result.andThen_ok,Sem.run_pure]) hS h
theorem ziz (b : Nat){k : Nat}(hk : k ≤ 5)(w : World) : (Instr.sliceAt 57 (.pointer (some ⟨b,1,none⟩)) (some (.int .i64 1)) (some (.int .i64 (1 + (k : Int)))) none).run prog w = .ok (.slice (some ⟨b,2,none⟩) k 10) w := by
 have h : k = 0 ∨ k = 1 ∨ k = 2 ∨ k = 3 ∨ k = 4 ∨ k = 5 := by omega
 rcases h with rfl | rfl | rfl | rfl | rfl | rfl
 all_goals go_simp
theorem MT.reads {regs : List Int}{k : Nat}(h : MT b g regs w)(hb : b < w.heap.size)(hl : regs.length = 11)(hk : k ≤ 5) : zaU w w.heap.size 1 (some ⟨b,2,none⟩) k (((regs.drop 1).take k).map (Value.int .i64)) := by
 refine ⟨by simp; omega,fun hn => ⟨_,rfl,hb,fun j u hu => ?_⟩⟩;have hj : j < k := by
  have := (ztt.1 hu).1;simp at this;omega
 rw [zo9,show 2 + j = 1 + (1 + j) by omega,h.2 (1 + j) (by omega)];rw [ztw,List.getElem?_take_of_lt hj,zt4,ztq (by omega)] at hu;rw [zts,ztq (by omega)];exact hu
def zlu (l : List Int)(n : Int) : Nat → List Int
 | 0 => l
 | k + 1 => (zlu l n k).set (k + 1) n
theorem zkj {n i : Int}{l : List Int}{va : Value}(hv : zbk w G va l)(W : World) : (Instr.build 72 #[(0,.int .i8 2),(4,.int .i64 i),(3,.int .i64 n),(5,va)]).run prog W = .ok (.agg (evC (⟨2,0,0,n,i,l⟩,va)).toArray) W := by
 obtain ⟨A,c,rfl⟩ := hv.form;exact run_build W 72 _ _ (by kernel_rfl)
theorem zlv {W w' : World}{va : Value}{regs : List Int}{k : Nat}(Ra : w'.ownsRow W.heap.size 3 1 va (0 + k) ([] ++ ((regs.drop 1).take k).map (Value.int .i64)))(hlow : ∀ c,G c → base ≤ c ∧ c < W.heap.size)(hbW : b < W.heap.size)(hr : regs.length = 11 ∧ (∀ r ∈ regs,I64 r) ∧ k ≤ 5)(hO : ∀ c,va.ownBlock = some c → W.heap.size ≤ c) : zbk w' (Uq G b) va ((regs.drop 1).take k) := by
 have hl : ((regs.drop 1).take k).length = 0 + k := by simp; omega
 obtain ⟨A,c,e,hc,hR⟩ := za5.of_own (F := Uq G b) Ra (fun c hc q => q.elim (fun q => by have := hO c hc; have := (hlow c q).2; omega) (fun q => by have := hO c hc; omega));refine ⟨A,c,by rw [hl]; exact e,by rw [hl]; exact hc,by rw [hl]; exact hR,fun x hx => hr.2.1 x (List.mem_of_mem_drop (zuk hx)),by omega⟩
theorem znR (h : MA base g b F G m ex w)(x : ID)(hx : x.wf)(hlt : m.evs.length < 64) : Calls prog 47 #[.pointer (some ⟨b,0,none⟩),.agg x.cells.toArray] w (zky base g b G ex w (m.call x)) := by
 have hb0 : base ≤ w.heap.size := zto (h.low b h.nb.2).1 (ztu h.lt);have hbl := ((Below.refl w.heap.size w).alloc (ztn _) (.cells x.cells.toArray 47));have HG := Hd (MG.of_below h hbl)
 have HB0 := Hd (show Blk (w.alloc (.cells x.cells.toArray 47)) w.heap.size 47 x.cells.toArray from Blk.new w 47 x.cells.toArray)
 have HLOW := Hd (fun (e : G w.heap.size) => by have := (h.low _ e).2; omega : ¬ G w.heap.size)
 obtain ⟨iA,hiA,hzA,hsA,hbA⟩ := info_parts zot;have IA := Hd (ztp hiA (ztp hzA (ztp hsA hbA)))
 obtain ⟨v,hv⟩ : ∃ v,m.next 64 = v := ⟨_,rfl⟩
 have HV := Hd (fun (W : World) (F G : Nat → Prop) (hW : MA base g b F G m ex W) => by have := zji hW 64 (by unfold I8; omega); rw [hv] at this; exact this)
 have HRQ := Hd (show v.1.regs = m.regs by rw [← hv]; rfl)
 have HEL := Hd (show v.1.evs.length < 64 by rw [← hv]; exact hlt)
 have hab := zkd x.imm;obtain ⟨k,hk⟩ : ∃ k : Nat,zcG x.imm = (k : Int) := ⟨(zcG x.imm).toNat,by omega⟩;have HK := Hd (show k ≤ 5 by omega)
 have HA := Hd (fun (W : World) => by have := zph x.imm W; rw [hk] at this; exact this)
 have HLEN := Hd h.len
 have HREG := Hd (ztp h.len (ztp h.rng HK.out))
 obtain ⟨z,hz⟩ : ∃ z,SM.num ⟨v.1.p,v.1.regs.set 0 v.2,v.1.evs ++ [⟨2,0,0,v.2,x.imm,(m.regs.drop 1).take k⟩],v.1.err⟩ 0 = z := ⟨_,rfl⟩;have HZ := Hd (fun (W : World) (F G : Nat → Prop) (hW : MA base g b F G ⟨v.1.p,v.1.regs.set 0 v.2,v.1.evs ++ [⟨2,0,0,v.2,x.imm,(m.regs.drop 1).take k⟩],v.1.err⟩ ex W) => by have := zdX hW 0 zbF; rw [hz] at this; exact this)
 have HNX := Hd (show m.call x = ⟨z.1.p,zlu z.1.regs z.2 5,z.1.evs,z.1.err⟩ by
  unfold SM.call;dsimp only;rw [hv,hk,ztx];show (let q := SM.num ⟨v.1.p,v.1.regs.set 0 v.2,v.1.evs ++ [⟨2,0,0,v.2,x.imm,(m.regs.drop 1).take k⟩],v.1.err⟩ 0; ({ q.1 with regs := zgq q.1.regs q.2 } : SM)) = _
  dsimp only;rw [hz]
  rfl)
 obtain ⟨mv,nv⟩ := v;obtain ⟨mz,nz⟩ := z;dsimp only at HV HRQ HEL HZ HNX;have HX := Hd hx
 have HM := Hd (MG.refl HG.out.at_)
 clear h hx hv hlt hb0 hbl hab hk hz hiA hzA hsA hbA;go_enter func47,ntmps47;go_upto_region 1 with fail
 generalize (w.alloc (.cells x.cells.toArray 47)) = Wd at HG HM HB0 ⊢;generalize w.heap.size = bx at HB0 HLOW ⊢;go_wp2_with fail
 refine (HV.out _ _ _ HM.out.at_).mono ?_;rintro e w1 ⟨rfl,hi1,F1,G1,hm1⟩;replace HM := Hd (HM.out.trans hm1)
 have HNI := Hd hi1
 clear hm1 hi1;go_wp2;refine zac (fun w' => Blk w' bx 47 x.cells.toArray) (MT b g m.regs) [] (by kernel_rfl) ?_;replace HM := Hd (HM.out.step ((Below.refl _ _).drew))
 generalize w1.drew = w2 at HM ⊢;have HT := Hd (HM.out.blk HB0.out HLOW.out).1
 have HS := Hd (show MT b g m.regs w2 from HRQ.out ▸ HM.out.at_.mt)
 refine em 0 (.pointer (some ⟨b,0,none⟩)) (bS HT HS) ?_;refine ef 1 ⟨bx,0,none⟩ ⟨bx,8,none⟩ (bS HT HS) ?_;refine el false 2 ⟨bx,8,none⟩ (.int .i64 x.imm) underlying3 (fun w hS => (hS.1.cell 8)) (bS HT HS) ?_;refine em 3 (.int .i64 nv) (bS HT HS) ?_;refine em 4 (.pointer (some ⟨b,0,none⟩)) (bS HT HS) ?_;refine ez 5 ⟨b,0,none⟩ (bS HT HS) ?_;refine ef 6 ⟨b,0,none⟩ ⟨b,1,none⟩ (bS HT HS) ?_;refine ef 7 ⟨b,1,none⟩ ⟨b,1,none⟩ (bS HT HS) ?_;refine ef 8 ⟨bx,0,none⟩ ⟨bx,8,none⟩ (bS HT HS) ?_;refine el false 9 ⟨bx,8,none⟩ (.int .i64 x.imm) underlying3 (fun w hS => (hS.1.cell 8)) (bS HT HS) ?_;refine ec 10 (HA.out _) ?_;rintro e wq ⟨rfl,rfl⟩;refine ek (bS HT HS) ?_;refine eb 11 (.int .i64 (1 + (k : Int))) rfl (fun o e w _ => by unfold execOp; simp only [e]; go_simp; have := HK.out; rw [zea (by omega)]) (bS HT HS) ?_;refine zp4 12 (some 21) _ _ _ _ (.pointer (some ⟨b,1,none⟩)) (.int .i64 1) (.int .i64 (1 + (k : Int))) (.slice (some ⟨b,2,none⟩) k 10) rfl (by kernel_rfl) (by rfl) (fun _ _ _ h => h) (by rfl) (by rfl) (by rfl) (ziz b HK.out) (bS HT HS) ?_;simp only [pt,pn,sL];refine zaN 13 (by kernel_rfl) (zar.append 13 (some 22) 28 3 _ _ w2.heap.size iA _ 1 8 rfl (by rfl) underlying28 IA.out.1 IA.out.2.1 IA.out.2.2.1 IA.out.2.2.2 rfl (by omega) (.slice none 0 0) 0 [] (by rfl) ⟨rfl,.inl ⟨rfl,rfl⟩⟩ _ (some ⟨b,2,none⟩) k 10 (((m.regs.drop 1).take k).map (Value.int .i64)) (by rfl) (HS.out.reads HM.out.at_.lt HLEN.out HK.out) (fun u hu => by obtain ⟨_,_,rfl⟩ := List.mem_map.1 hu; rfl) (by have := HK.out; unfold maxLen; omega) (by have := HK.out; omega) (ztn _) ?_);intro va wq Ra Ga Oa;have hbq : Below w2.heap.size w2 wq := (Below.refl _ _).grown Ga (ztn _) (fun c e => by cases e);have HVA := Hd (zlv Ra HM.out.at_.low HM.out.at_.lt HREG.out (fun c hc => Oa.elim (fun e => by rw [e] at hc; cases hc) (fun e => by rw [e] at hc; injection hc with hc; rw [hc]; exact ztn _)))
 have HV1 := Hd (zdP Ra)
 replace HM := Hd (HM.out.step hbq)
 replace HT := Hd (HM.out.blk HB0.out HLOW.out).1
 replace HS := Hd (show MT b g m.regs wq from HRQ.out ▸ HM.out.at_.mt)
 clear Ra Ga Oa hbq;refine ⟨.both HT.out HS.out,?_⟩;simp only [pt,pn,sL];refine zcH 14 (some 23) _ _ (#[(0,.int .i8 2),(4,.int .i64 x.imm),(3,.int .i64 nv),(5,va)]) (.agg (evC (⟨2,0,0,nv,x.imm,(m.regs.drop 1).take k⟩,va)).toArray) rfl (by kernel_rfl) (by rfl) (fun _ _ _ h => h) (by simp only [ztD,ztz,ztA]; rfl) (fun w => zkj HVA.out w) (bS HT HS) ?_;simp only [pt,pn,sL];refine ec 15 (zfR HM.out.at_ ⟨2,0,0,nv,x.imm,(m.regs.drop 1).take k⟩ va HV1.out ⟨by unfold I8; dsimp only; omega,by unfold I8; dsimp only; omega,zbF,HNI.out,HX.out.2.2.2.2.2.2.2⟩ HVA.out HEL.out) ?_;rintro e wq ⟨rfl,Fq,Gq,hmq⟩;replace HM := Hd (HM.out.trans hmq)
 replace HT := Hd (HM.out.blk HB0.out HLOW.out).1
 replace HS := Hd (show MT b g m.regs wq from HRQ.out ▸ HM.out.at_.mt)
 clear hmq;refine ek (bS HT HS) ?_;refine zab (by kernel_rfl) ?_ _;have HWQ := Hd HM.out.at_
 clear HT HVA HV1
 rename World => w5
 have c1 : w5.cell? ⟨b,1,none⟩ = some (.int .i64 (mv.event ⟨2,0,0,nv,x.imm,(m.regs.drop 1).take k⟩ |>.regs.getD 0 0)) := HWQ.out.creg (d := 0) (by omega);have f1 : w5.frozen? ⟨b,1,none⟩ = false := HWQ.out.frozen 1;clear HWQ HS;go_wp2_with fail
 have HM5 := Hd (show MG base g b G Wd _ _ ⟨mv.p,mv.regs.set 0 nv,mv.evs ++ [⟨2,0,0,nv,x.imm,(m.regs.drop 1).take k⟩],mv.err⟩ ex (w5.setCell ⟨b,1,none⟩ (.int .i64 nv)) from HM.out.trans (HM.out.at_.setReg (d := 0) (by omega) HNI.out))
 refine (HZ.out _ _ _ HM5.out.at_).mono ?_;rintro e w6 ⟨rfl,hi6,F6,G6,hm6⟩;have HM6 := Hd (HM5.out.trans hm6)
 have HI6 := Hd hi6
 clear hm6 hi6 HM HM5 c1 f1;go_wp2_with fail
 go_loopw [6] (fun i wr => ∃ j : Nat,j ≤ 5 ∧ i = .int .i64 ((j : Int) + 1) ∧ ∃ F' G',MG base g b G Wd F' G' ⟨mz.p,zlu mz.regs nz j,mz.evs,mz.err⟩ ex wr) (fun i _ => 5 - ((intOf i).toNat - 1))
 case atStart => exact ⟨0,by omega,rfl,_,_,HM6.out⟩
 case round =>
  obtain ⟨j,hj,rfl,F',G',hmr⟩ := hrel;have HMR := Hd hmr
  clear hmr
  by_cases hlt : j < 5
  ·have cj := HMR.out.at_.creg (d := j + 1) (by omega)
   have fj := HMR.out.at_.frozen (1 + (j + 1));have hset := Hd (HMR.out.trans (HMR.out.at_.setReg (d := j + 1) (by omega) HI6.out))
   obtain ⟨j1,hj1⟩ : ∃ j1,j + 1 = j1 := ⟨_,rfl⟩;rw [hj1] at cj fj hset;have hji : (j : Int) + 1 = (j1 : Int) := by omega
   rw [hji];have hj5 : j1 ≤ 5 := by omega
   have hj0 : 1 ≤ j1 := by omega
   have HJ := Hd hj1
   clear hj1 hji hlt hj;go_wp2;go_roundw
   case measure => simp [intOf]; have := HJ.out; omega
   case rel => exact ⟨j1,hj5,by go_num,F',G',by have := hset.out; rw [← HJ.out] at this ⊢; exact this⟩
  ·obtain rfl : j = 5 := by omega
   go_wp2;go_end0;rw [HNX.out];exact ⟨rfl,_,_,HG.out.trans HMR.out⟩
end
end
section
section
variable {base g b : Nat}{F G F1 G1 : Nat → Prop}{m : SM}{ex : ExD}{w : World}
theorem MA.exit2 {w' : World}(h : MA base g b F G m ex w){cs : List Value}(hB0 : Blk w b 114 cs.toArray)(ex' : ExD)(hB1 : Blk w' b 114 (zaM cs 13 [.int .i8 ex'.kind,.int .i64 ex'.v,.int .i64 ex'.tgt,.int .i64 ex'.els]).toArray)(Gr : w.grownBy w' (some b)) : MG base g b G w F G m ex' w' :=
 h.exit ex' (fun es hE => by
  have e : w.heap[b]? = some (.cells cs.toArray 114 (0,0)) := hB0;have e2 : w.heap[b]? = some (.cells (mC g m.regs es ex m.err).toArray 114 (0,0)) := hE;rw [e] at e2;injection e2 with e2
  injection e2 with e2
  have e3 : cs = mC g m.regs es ex m.err := by simpa using e2
  rw [e3] at hB1;exact hB1) Gr
theorem znS : (prog.info? 63).map (·.size) = some 4 := by kernel_rfl
def exC (e : ExD) : List Value := [.int .i8 e.kind,.int .i64 e.v,.int .i64 e.tgt,.int .i64 e.els]
theorem zdv (e : ExD) : ∀ u ∈ exC e,u.oneCell' = true := by
 intro u hu;unfold exC at hu;simp only [ztM,zt5,or_false] at hu
 rcases hu with rfl | rfl | rfl | rfl <;> rfl
theorem zhH (n : Int)(w : World) : (Instr.build 63 #[(0,.int .i8 0),(1,.int .i64 n)]).run prog w = .ok (.agg (exC ⟨0,n,0,0⟩).toArray) w := run_build w 63 _ _ (by kernel_rfl)
theorem zd0 (n : Int)(w : World) : (Instr.build 63 #[(0,.int .i8 1),(2,.int .i64 n)]).run prog w = .ok (.agg (exC ⟨1,0,n,0⟩).toArray) w := run_build w 63 _ _ (by kernel_rfl)
theorem zbk.at0 {nn cn : Nat}{An : Option Addr}{nx : List Int}(h : zbk w G (.slice An nn cn) nx){k : Nat}(hk : k < nn) : ∃ ad,An = some ad ∧ ad.block < w.heap.size ∧ w.cell? (ad.add k) = some (.int .i64 (nx.getD k 0)) := by
 obtain ⟨ad,x,e,hb,hx,_,hc⟩ := h.at_ hk;exact ⟨ad,e,hb,by rw [hc,zts,hx]; rfl⟩
theorem znT (h : MA base g b F G m ex w)(x : ID)(hk : x.kind = 6)(s : Value)(nx : List Int) : Calls prog 48 #[.pointer (some ⟨b,0,none⟩),.agg x.cells.toArray,s] w (zky base g b G (m.ends x nx).2 w (m.ends x nx).1) := by
 have hb0 : base ≤ w.heap.size := zto (h.low b h.nb.2).1 (ztu h.lt);have hbl := ((Below.refl w.heap.size w).alloc (ztn _) (.cells x.cells.toArray 47));have HG := Hd (MG.of_below h hbl)
 have HB0 := Hd (show Blk (w.alloc (.cells x.cells.toArray 47)) w.heap.size 47 x.cells.toArray from Blk.new w 47 x.cells.toArray)
 have HLOW := Hd (fun (e : G w.heap.size) => by have := (h.low _ e).2; omega : ¬ G w.heap.size)
 obtain ⟨r0,hr0⟩ : ∃ r,m.regs.getD 0 0 = r := ⟨_,rfl⟩;have HNX := Hd (show m.ends x nx = (m,⟨0,r0,0,0⟩) by unfold SM.ends; rw [if_pos hk,← hr0]; rfl)
 have c1 : (w.alloc (.cells x.cells.toArray 47)).cell? ⟨b,1,none⟩ = some (.int .i64 r0) := by rw [← hr0]; exact HG.out.at_.creg (d := 0) (by omega)
 have HM := Hd (MG.refl HG.out.at_)
 have HK := Hd hk
 clear h hk hb0 hbl hr0;go_enter func48,ntmps48;go_upto_region 1 with fail
 generalize (w.alloc (.cells x.cells.toArray 47)) = Wd at HG HM HB0 c1 ⊢;generalize w.heap.size = bx at HB0 HLOW ⊢;have b0 : Wd.cell? ⟨bx,0,none⟩ = some (.int .i8 6) := by rw [← HK.out]; exact HB0.out.cell 0
 have qb := fun (W : World) => zhH r0 W
 obtain ⟨es,qe,hBs,_⟩ := HM.out.at_.box;have HBS := Hd hBs
 have HLN := Hd HM.out.at_.len
 clear hBs;go_wp2_with (first
  | (refine zaa rfl 63 (.tmp 40) (.tmp 37) rfl b 13 114 _ (exC ⟨0,r0,0,0⟩) (.agg (exC ⟨0,r0,0,0⟩).toArray) HBS.out (by rfl) (by rfl) rfl znS (by rw [zco HLN.out]; simp [exC]) (zdv _) ?_
     intro wq hBq hgq hsq;have HMQ := Hd (HM.out.trans (HM.out.at_.exit2 HBS.out ⟨0,r0,0,0⟩ hBq hgq))
     clear hBq hgq hsq)
  | fail)
 go_end0;rw [HNX.out];exact ⟨rfl,_,_,HG.out.trans HMQ.out⟩
theorem zbJ {ad : Addr}{nn cn k : Nat}{i : Int}(hi : i = (k : Int))(hk : k < nn)(w : World) : (Instr.indexAt 28 (.slice (some ad) nn cn) (.int .i64 i)).run prog w = .ok (.pointer (some (ad.add k))) w := by
 subst hi;go_simp
def NT (ad : Addr)(n0 n1 : Int)(w : World) : Prop := w.cell? (ad.add 0) = some (.int .i64 n0) ∧ w.cell? (ad.add 1) = some (.int .i64 n1)
theorem znU (h : MA base g b F G m ex w)(x : ID)(hk6 : x.kind ≠ 6)(hk : x.kind ≠ 3){An : Option Addr}{nn cn : Nat}{nx : List Int}(hn : zbk w G (.slice An nn cn) nx)(hnn : 0 < nn) : Calls prog 48 #[.pointer (some ⟨b,0,none⟩),.agg x.cells.toArray,.slice An nn cn] w (zky base g b G (m.ends x nx).2 w (m.ends x nx).1) := by
 have hb0 : base ≤ w.heap.size := zto (h.low b h.nb.2).1 (ztu h.lt);have hbl := (Below.refl w.heap.size w).alloc (ztn _) (.cells x.cells.toArray 47);have HG := Hd (MG.of_below h hbl)
 have HB0 := Hd (show Blk (w.alloc (.cells x.cells.toArray 47)) w.heap.size 47 x.cells.toArray from Blk.new w 47 x.cells.toArray)
 have HLOW := Hd (fun (e : G w.heap.size) => by have := (h.low _ e).2; omega : ¬ G w.heap.size)
 have HNF := Hd (hn.chg (G := G) (Chg.of_below hbl) (fun k q => .inr q) (fun k q => .inl q))
 obtain ⟨n0,hn0⟩ : ∃ n,nx.getD 0 0 = n := ⟨_,rfl⟩;have HNX := Hd (show m.ends x nx = (m,⟨1,0,n0,0⟩) by unfold SM.ends; rw [if_neg hk6,if_neg (by rintro ⟨q1,q2⟩; exact hk q1),hn0])
 obtain ⟨ad,hAn,hab,hc0⟩ := HNF.out.at0 (k := 0) (by omega);subst hAn;rw [hn0] at hc0;have hk6' : (x.kind == 6) = false := by simpa using hk6
 have hk3' : (x.kind == 3) = false := by simpa using hk
 have HM := Hd (MG.refl HG.out.at_)
 have HC0 := Hd hc0
 skip
 have HNN := Hd (ztp hnn hnn)
 obtain ⟨kd,hkd⟩ : ∃ k,x.kind = k := ⟨_,rfl⟩;rw [hkd] at hk6' hk3';have b0 : (w.alloc (.cells x.cells.toArray 47)).cell? ⟨w.heap.size,0,none⟩ = some (.int .i8 kd) := by rw [← hkd]; exact HB0.out.cell 0
 clear h hk hk6 hb0 hbl hn hn0 hc0 hkd hab HNF;go_enter func48,ntmps48;go_upto_region 1 with fail
 generalize (w.alloc (.cells x.cells.toArray 47)) = Wd at HG HM HB0 HC0 b0 ⊢;generalize w.heap.size = bx at HB0 HLOW b0 ⊢;have HB1 := Hd b0
 go_upto_region 2 with fail
 clear b0;refine zac (fun w' => w'.cell? ⟨bx,0,none⟩ = some (.int .i8 kd)) (fun _ => True) [] (by kernel_rfl) ?_;have HT := Hd (show Wd.drew.cell? ⟨bx,0,none⟩ = some (.int .i8 kd) from HB1.out)
 have c0 : Wd.drew.cell? ad = some (.int .i64 n0) := HC0.out;have b0 : Wd.drew.cell? ⟨bx,0,none⟩ = some (.int .i8 kd) := HB1.out;replace HM := Hd (HM.out.step ((Below.refl _ _).drew))
 generalize Wd.drew = We at HM HT c0 b0 ⊢;refine ef 0 ⟨bx,0,none⟩ ⟨bx,0,none⟩ (bT HT) ?_;refine el false 1 ⟨bx,0,none⟩ (.int .i8 kd) underlying30 (fun w hS => hS.1) (bT HT) ?_;refine eg 2 (.bool false) (bT HT) ?_;refine em 3 (.bool false) (bT HT) ?_;refine en 4 (bT HT) ?_;refine en 5 (bT HT) ?_;refine en 6 (bT HT) ?_;refine en 7 (bT HT) ?_;refine en 8 (bT HT) ?_;refine en 9 (bT HT) ?_;refine en 10 (bT HT) ?_;refine ep 11 false (.bool false) (bT HT) ?_;refine eS 12 (.bool false) (bT HT) ?_;refine zab (by kernel_rfl) ?_ _;have qb := fun (W : World) => zd0 n0 W
 obtain ⟨es,qe,hBs,_⟩ := HM.out.at_.box;have HBS := Hd hBs
 have HLN := Hd HM.out.at_.len
 clear hBs;go_wp2_with (first
  | (refine zaa rfl 63 (.tmp 99) (.tmp 96) rfl b 13 114 _ (exC ⟨1,0,n0,0⟩) (.agg (exC ⟨1,0,n0,0⟩).toArray) HBS.out (by rfl) (by rfl) rfl znS (by rw [zco HLN.out]; simp [exC]) (zdv _) ?_
     intro wq hBq hgq hsq;have HMQ := Hd (HM.out.trans (HM.out.at_.exit2 HBS.out ⟨1,0,n0,0⟩ hBq hgq))
     clear hBq hgq hsq)
  | fail)
 go_end0;rw [HNX.out];exact ⟨rfl,_,_,HG.out.trans HMQ.out⟩
theorem zlw (h : MA base g b F G m ex w)(x : ID)(hk6 : x.kind ≠ 6)(hk : x.kind = 3){An : Option Addr}{nn cn : Nat}{nx : List Int}(hn : zbk w G (.slice An nn cn) nx)(hnn : 1 < nn)(he : nx.getD 0 0 = nx.getD 1 0) : Calls prog 48 #[.pointer (some ⟨b,0,none⟩),.agg x.cells.toArray,.slice An nn cn] w (zky base g b G (m.ends x nx).2 w (m.ends x nx).1) := by
 have hb0 : base ≤ w.heap.size := zto (h.low b h.nb.2).1 (ztu h.lt);have hbl := (Below.refl w.heap.size w).alloc (ztn _) (.cells x.cells.toArray 47);have HG := Hd (MG.of_below h hbl)
 have HB0 := Hd (show Blk (w.alloc (.cells x.cells.toArray 47)) w.heap.size 47 x.cells.toArray from Blk.new w 47 x.cells.toArray)
 have HLOW := Hd (fun (e : G w.heap.size) => by have := (h.low _ e).2; omega : ¬ G w.heap.size)
 have HNF := Hd (hn.chg (G := G) (Chg.of_below hbl) (fun k q => .inr q) (fun k q => .inl q))
 obtain ⟨n0,hn0⟩ : ∃ n,nx.getD 0 0 = n := ⟨_,rfl⟩;obtain ⟨n1,hn1⟩ : ∃ n,nx.getD 1 0 = n := ⟨_,rfl⟩;have HNX := Hd (show m.ends x nx = (m,⟨1,0,n0,0⟩) by unfold SM.ends; rw [if_neg hk6,if_neg (by rintro ⟨q1,q2⟩; exact q2 he),hn0])
 obtain ⟨ad,hAn,hab,hc0⟩ := HNF.out.at0 (k := 0) (by omega);subst hAn;rw [hn0] at hc0;obtain ⟨ad',hAn,_,hc1⟩ := HNF.out.at0 (k := 1) (by omega);injection hAn with hAn
 subst hAn;rw [hn1] at hc1;have hne : (n0 != n1) = false := by rw [← hn0,← hn1,he]; simp
 have hk6' : (x.kind == 6) = false := by simpa using hk6
 have hk3' : (x.kind == 3) = true := by simpa using hk
 have HM := Hd (MG.refl HG.out.at_)
 have HC0 := Hd hc0
 have HC1 := Hd hc1
 have HNN := Hd (ztp (show 0 < nn by omega) (show 1 < nn by omega))
 obtain ⟨kd,hkd⟩ : ∃ k,x.kind = k := ⟨_,rfl⟩;rw [hkd] at hk6' hk3';have b0 : (w.alloc (.cells x.cells.toArray 47)).cell? ⟨w.heap.size,0,none⟩ = some (.int .i8 kd) := by rw [← hkd]; exact HB0.out.cell 0
 clear h hk hk6 hb0 hbl hn hn0 hn1 he hc1 hc0 hkd hab HNF;go_enter func48,ntmps48;go_upto_region 1 with fail
 generalize (w.alloc (.cells x.cells.toArray 47)) = Wd at HG HM HB0 HC0 HC1 b0 ⊢;generalize w.heap.size = bx at HB0 HLOW b0 ⊢;have HB1 := Hd b0
 go_upto_region 2 with fail
 clear b0;refine zac (fun w' => w'.cell? ⟨bx,0,none⟩ = some (.int .i8 kd) ∧ NT ad n0 n1 w') (fun _ => True) [] (by kernel_rfl) ?_;have HT := Hd (show Wd.drew.cell? ⟨bx,0,none⟩ = some (.int .i8 kd) ∧ NT ad n0 n1 Wd.drew from ⟨HB1.out,HC0.out,HC1.out⟩)
 have c0 : Wd.drew.cell? ad = some (.int .i64 n0) := HC0.out;have b0 : Wd.drew.cell? ⟨bx,0,none⟩ = some (.int .i8 kd) := HB1.out;replace HM := Hd (HM.out.step ((Below.refl _ _).drew))
 generalize Wd.drew = We at HM HT c0 b0 ⊢;refine ef 0 ⟨bx,0,none⟩ ⟨bx,0,none⟩ (bT HT) ?_;refine el false 1 ⟨bx,0,none⟩ (.int .i8 kd) underlying30 (fun w hS => hS.1.1) (bT HT) ?_;refine eg 2 (.bool true) (bT HT) ?_;refine em 3 (.bool true) (bT HT) ?_;refine em 4 (.slice (some ad) nn cn) (bT HT) ?_;refine ej 5 (.slice (some ad) nn cn) (.int .i64 0) (.pointer (some (ad.add 0))) (zbJ (k := 0) rfl HNN.out.1) (bT HT) ?_;refine el false 6 (ad.add 0) (.int .i64 n0) underlying3 (fun w hS => hS.1.2.1) (bT HT) ?_;refine em 7 (.slice (some ad) nn cn) (bT HT) ?_;refine ej 8 (.slice (some ad) nn cn) (.int .i64 1) (.pointer (some (ad.add 1))) (zbJ (k := 1) rfl HNN.out.2) (bT HT) ?_;refine el false 9 (ad.add 1) (.int .i64 n1) underlying3 (fun w hS => hS.1.2.2) (bT HT) ?_;refine eg 10 (.bool false) (bT HT) ?_;refine ep 11 true (.bool false) (bT HT) ?_;refine eS 12 (.bool false) (bT HT) ?_;refine zab (by kernel_rfl) ?_ _;have qb := fun (W : World) => zd0 n0 W
 obtain ⟨es,qe,hBs,_⟩ := HM.out.at_.box;have HBS := Hd hBs
 have HLN := Hd HM.out.at_.len
 clear hBs;go_wp2_with (first
  | (refine zaa rfl 63 (.tmp 99) (.tmp 96) rfl b 13 114 _ (exC ⟨1,0,n0,0⟩) (.agg (exC ⟨1,0,n0,0⟩).toArray) HBS.out (by rfl) (by rfl) rfl znS (by rw [zco HLN.out]; simp [exC]) (zdv _) ?_
     intro wq hBq hgq hsq;have HMQ := Hd (HM.out.trans (HM.out.at_.exit2 HBS.out ⟨1,0,n0,0⟩ hBq hgq))
     clear hBq hgq hsq)
  | fail)
 go_end0;rw [HNX.out];exact ⟨rfl,_,_,HG.out.trans HMQ.out⟩
end
end
section
section
variable {base g b : Nat}{F G F1 G1 : Nat → Prop}{m : SM}{ex : ExD}{w : World}
def znC (base g b : Nat)(G : Nat → Prop)(ex : ExD)(w : World)(m : SM)(e : Ending)(w' : World) : Prop := e = .returned (.tuple #[]) ∧ ∃ F' G',DG base g b G w F' G' m ex w'
theorem zfK (h : DA base g b F G m ex w){x : ID}(hs : x.byReg = true → 0 ≤ x.src ∧ x.src ≤ 10) : I64 (m.second x).2 := by
 unfold SM.second
 split
 ·rename_i hb
  have := hs hb;exact h.reg_i64 (d := x.src.toNat) (by omega)
 ·split <;> exact zjk h _
theorem zgB (h : DA base g b F G m ex w)(x : ID) : WfP (m.second x).1.p ∧ ∀ t ∈ (m.second x).1.p.T,t.wf := by
 unfold SM.second
 split
 ·exact ⟨h.pool.wf,h.pool.rng⟩
 ·split <;> exact ziy h _
theorem znV (h : DA base g b F G m ex w)(x : ID)(hk : x.kind = 0)(hx : x.wf)(hdst : 0 ≤ x.dst ∧ x.dst ≤ 10)(hs : x.byReg = true → 0 ≤ x.src ∧ x.src ≤ 10)(hwd : -128 < x.width) : Calls prog 50 #[.pointer (some ⟨b,0,none⟩),.agg x.cells.toArray] w (znC base g b G ex w (m.alu x)) := by
 have hb0 : base ≤ w.heap.size := zto (h.low b h.nb.2).1 (ztu h.lt);have hbl := ((Below.refl w.heap.size w).alloc (ztn _) (.cells x.cells.toArray 47));have HG := Hd (DG.of_below h hbl)
 have HB0 := Hd (show Blk (w.alloc (.cells x.cells.toArray 47)) w.heap.size 47 x.cells.toArray from Blk.new w 47 x.cells.toArray)
 have HLOW := Hd (fun (e : G w.heap.size) => by have := (h.low _ e).2; omega : ¬ G w.heap.size)
 obtain ⟨q,hq⟩ : ∃ q,m.second x = q := ⟨_,rfl⟩;have HN := Hd (fun (W : World) (F G : Nat → Prop) (hW : DA base g b F G m ex W) => by have := zfS hW x hx hs hwd; rw [hq] at this; exact this)
 have hqi : I64 q.2 := by rw [← hq]; exact zfK h hs
 have hqw : WfP q.1.p ∧ ∀ t ∈ q.1.p.T,t.wf := by rw [← hq]; exact zgB h x
 have HRQ := Hd (show q.1.regs = m.regs by rw [← hq]; exact zcW m x)
 obtain ⟨d,hr,hd⟩ := I8.nat hdst;have hri := h.reg_i64 hd;have hrr : m.reg x.dst = m.regs.getD d 0 := by unfold SM.reg; rw [hr,ztx]
 obtain ⟨rs,hrs⟩ : ∃ r,opV q.1.p x.op x.width (m.regs.getD d 0) q.2 = r := ⟨_,rfl⟩;have HO := Hd (fun (W : World) (F : Nat → Prop) (hW : zaO W base F g q.1.p) (hb : base ≤ W.heap.size) => by obtain ⟨f,hf⟩ := zbV hW.wf hW.rng x.op x.width (m.regs.getD d 0) q.2; rw [hrs] at hf; exact ziP f x.op x.width _ q.2 F q.1.p rs hf W hW hb)
 have HON := Hd (show I64 rs.2.1 by rw [← hrs]; exact ze1 hqw.1 hqw.2 _ _ _ _)
 have HNX := Hd (show m.alu x = ⟨rs.1,q.1.regs.set d rs.2.1,q.1.evs,if q.1.err = 0 then rs.2.2 else q.1.err⟩ by unfold SM.alu; dsimp only; rw [hq,hrr,hrs]; unfold SM.set SM.keep; rw [hr,ztx])
 obtain ⟨mq,nq⟩ := q;obtain ⟨rp,rn,re⟩ := rs;dsimp only at HN HRQ HO HON HNX;have HRD := Hd hr
 have HD := Hd hd
 have HKD := Hd hk
 have hb1 := zto hb0 HG.out.size;have HM := Hd (DG.refl HG.out.at_)
 clear h hx hdst hs hwd hq hqi hqw hri hrr hrs hd hb0 hr hbl hk;go_enter func50,ntmps50;go_upto_region 1 with fail
 generalize (w.alloc (.cells x.cells.toArray 47)) = Wd at HG HM HB0 hb1 ⊢;generalize w.heap.size = bx at HB0 HLOW ⊢;have b0 : Wd.cell? ⟨bx,0,none⟩ = some (.int .i8 0) := by rw [← HKD.out]; exact HB0.out.cell 0
 go_upto_region 3 with fail
 refine zac (fun w' => Blk w' bx 47 x.cells.toArray) (MT b g m.regs) [31] (by kernel_rfl) ?_;replace HM := Hd (HM.out.step ((Below.refl _ _).drew))
 generalize Wd.drew = W2 at HM ⊢;have HT := Hd (HM.out.blk HB0.out HLOW.out).1
 have HS := Hd (show MT b g m.regs W2 from HM.out.at_.mt)
 refine em 0 (.pointer (some ⟨b,0,none⟩)) (bS HT HS) ?_;refine ef 1 ⟨bx,0,none⟩ ⟨bx,5,none⟩ (bS HT HS) ?_;refine el false 2 ⟨bx,5,none⟩ (.int .i8 x.dst) underlying30 (fun w hS => (hS.1.cell 5)) (bS HT HS) ?_;refine em 3 (.pointer (some ⟨b,0,none⟩)) (bS HT HS) ?_;refine em 4 (.pointer (some ⟨b,0,none⟩)) (bS HT HS) ?_;refine ez 5 ⟨b,0,none⟩ (bS HT HS) ?_;refine ef 6 ⟨b,0,none⟩ ⟨b,0,none⟩ (bS HT HS) ?_;refine el true 7 ⟨b,0,none⟩ (.pointer (some ⟨g,0,none⟩)) underlying52 (fun w hS => (hS.2 rfl).1) (bS HT HS) ?_;refine ef 8 ⟨bx,0,none⟩ ⟨bx,1,none⟩ (bS HT HS) ?_;refine el false 9 ⟨bx,1,none⟩ (.int .i8 x.op) underlying30 (fun w hS => (hS.1.cell 1)) (bS HT HS) ?_;refine ef 10 ⟨bx,0,none⟩ ⟨bx,2,none⟩ (bS HT HS) ?_;refine el false 11 ⟨bx,2,none⟩ (.int .i8 x.width) underlying30 (fun w hS => (hS.1.cell 2)) (bS HT HS) ?_;refine em 12 (.pointer (some ⟨b,0,none⟩)) (bS HT HS) ?_;refine ef 13 ⟨bx,0,none⟩ ⟨bx,5,none⟩ (bS HT HS) ?_;refine el false 14 ⟨bx,5,none⟩ (.int .i8 x.dst) underlying30 (fun w hS => (hS.1.cell 5)) (bS HT HS) ?_;refine ez 15 ⟨b,0,none⟩ (bS HT HS) ?_;refine ef 16 ⟨b,0,none⟩ ⟨b,1,none⟩ (bS HT HS) ?_;refine ef 17 ⟨b,1,none⟩ ⟨b,1,none⟩ (bS HT HS) ?_;refine ej 18 (.pointer (some ⟨b,1,none⟩)) (.int .i8 x.dst) (.pointer (some ⟨b,1 + d,none⟩)) (zbW b HRD.out HD.out) (bS HT HS) ?_;refine el true 19 ⟨b,1 + d,none⟩ (.int .i64 (m.regs.getD d 0)) underlying3 (fun w hS => ((hS.2 rfl).2 d HD.out)) (bS HT HS) ?_;refine em 20 (.pointer (some ⟨b,0,none⟩)) (bS HT HS) ?_;refine eL false 21 ⟨bx,0,none⟩ x.cells (fun w hS => zak hS.1) underlying47 zlq (bS HT HS) ?_;refine ez 27 ⟨b,0,none⟩ (bS HT HS) ?_;refine ef 28 ⟨b,0,none⟩ ⟨b,1,none⟩ (bS HT HS) ?_;refine ef 29 ⟨b,1,none⟩ ⟨b,1,none⟩ (bS HT HS) ?_;refine ec 22 (HN.out _ _ _ HM.out.at_) ?_;rintro e wq ⟨rfl,_,Fq,Gq,hmq⟩;replace HM := Hd (HM.out.trans hmq)
 replace HT := Hd (HM.out.blk HB0.out HLOW.out).1
 replace HS := Hd (show MT b g m.regs wq from HRQ.out ▸ HM.out.at_.mt)
 clear hmq;refine ek (bS HT HS) ?_;refine ec 23 (HO.out _ _ HM.out.at_.pool (zto hb1 HM.out.size)) ?_;rintro e wq ⟨rfl,Fq,hpq⟩;replace HM := Hd (HM.out.trans (HM.out.at_.pg hpq))
 replace HT := Hd (HM.out.blk HB0.out HLOW.out).1
 replace HS := Hd (show MT b g m.regs wq from HRQ.out ▸ HM.out.at_.mt)
 clear hpq;refine ek (bS HT HS) ?_;refine eg 24 (.int .i64 rn) (bS HT HS) ?_;refine eg 25 (.int .i64 re) (bS HT HS) ?_;refine ec 26 (zcA HM.out.at_ (rn) (re) HON.out) ?_;rintro e wq ⟨rfl,_,Fq,Gq,hmq⟩;replace HM := Hd (HM.out.trans hmq)
 replace HT := Hd (HM.out.blk HB0.out HLOW.out).1
 replace HS := Hd (show MT b g m.regs wq from HRQ.out ▸ HM.out.at_.mt)
 clear hmq;refine ek (bS HT HS) ?_;refine ej 30 (.pointer (some ⟨b,1,none⟩)) (.int .i8 x.dst) (.pointer (some ⟨b,1 + d,none⟩)) (zbW b HRD.out HD.out) (bS HT HS) ?_;obtain ⟨es,qe,hBs,_⟩ := HM.out.at_.box;have HM2 := Hd (HM.out.trans (HM.out.at_.setReg HD.out HON.out))
 refine zaN 31 (by kernel_rfl) (zar.store_at 31 3 _ _ ⟨b,1 + d,none⟩ (.int .i64 rn) _ rfl (by rfl) (by rfl) (by rfl) (zaE 3 b (1 + d) 120 _ _ hBs (by rw [zt3,zco HM.out.at_.len]; have := HD.out; omega) zrp rfl rfl) (.after (HM2.out.blk HB0.out HLOW.out).1 (by kernel_rfl)) ?_);clear hBs;simp only [pt,pn,sL];refine zab (by kernel_rfl) ?_ _;go_end0;rw [HNX.out];exact ⟨rfl,_,_,HG.out.trans HM2.out⟩
end
end
section
section
variable {base g b : Nat}{F G F1 G1 : Nat → Prop}{m : SM}{ex : ExD}{w : World}
theorem zlx (h : DA base g b F G m ex w)(r off : Int) : WfP (m.place r off).1.p ∧ ∀ t ∈ (m.place r off).1.p.T,t.wf := by
 obtain ⟨h1,h2⟩ := ziy h off;obtain ⟨f,hf⟩ := zbV h1 h2 0 64 (m.reg r) (m.num off).2;have hg := zeO f h1 h2 hf;exact ⟨hg.wf,hg.rng⟩
theorem zly (h : DA base g b F G m ex w)(x : ID)(hk : x.kind = 1)(hx : x.wf)(hdst : 0 ≤ x.dst ∧ x.dst ≤ 10)(hsrc : 0 ≤ x.src ∧ x.src ≤ 10)(hsz : 1 ≤ x.size ∧ x.size ≤ 8)(hlt : m.evs.length < 64) : Calls prog 50 #[.pointer (some ⟨b,0,none⟩),.agg x.cells.toArray] w (znC base g b G ex w (m.load x)) := by
 obtain ⟨iA,hiA,hzA,hsA,hbA⟩ := info_parts zsv;have IA := Hd (ztp hiA (ztp hzA (ztp hsA hbA)))
 clear hiA hzA hsA hbA;have hb0 : base ≤ w.heap.size := zto (h.low b h.nb.2).1 (ztu h.lt);have hbl := ((Below.refl w.heap.size w).alloc (ztn _) (.cells x.cells.toArray 47));have HG := Hd (DG.of_below h hbl)
 have HB0 := Hd (show Blk (w.alloc (.cells x.cells.toArray 47)) w.heap.size 47 x.cells.toArray from Blk.new w 47 x.cells.toArray)
 have HLOW := Hd (fun (e : G w.heap.size) => by have := (h.low _ e).2; omega : ¬ G w.heap.size)
 obtain ⟨d1,hr1,hd1⟩ := I8.nat hsrc;obtain ⟨q,hq⟩ : ∃ q,m.place x.src x.off = q := ⟨_,rfl⟩;have HP := Hd (fun (W : World) (F G : Nat → Prop) (hW : DA base g b F G m ex W) => by have := zgA hW x.src x.off hr1 hd1 hx.2.2.2.2.2.2.1; rw [hq] at this; exact this)
 have HRQ := Hd (show q.1.regs = m.regs by rw [← hq]; rfl)
 have HEQ := Hd (show q.1.evs = m.evs by rw [← hq]; rfl)
 have hwr : IntKind.i8.wrap (8 * x.size) = 8 * x.size := zfq (by omega);obtain ⟨d,hr,hd⟩ := I8.nat hdst;obtain ⟨v,hv⟩ : ∃ v,q.1.next (8 * x.size) = v := ⟨_,rfl⟩
 have HV := Hd (fun (W : World) (F G : Nat → Prop) (hW : DA base g b F G q.1 ex W) => by have := zhF hW (8 * x.size) (by unfold I8; omega); rw [hv] at this; exact this)
 have HRV := Hd (show v.1.regs = m.regs by rw [← hv]; exact HRQ.out)
 have HLT := Hd (show v.1.evs.length < 64 by rw [← hv]; show q.1.evs.length < 64; rw [HEQ.out]; exact hlt)
 have HNX := Hd (show m.load x = ⟨v.1.p,v.1.regs.set d v.2,v.1.evs ++ [⟨0,x.size,q.2,v.2,0,[]⟩],v.1.err⟩ by unfold SM.load; dsimp only; rw [hq,hv]; unfold SM.set SM.event; dsimp only; rw [hr,ztx])
 obtain ⟨mq,nq⟩ := q;obtain ⟨mv,nv⟩ := v;dsimp only at HP HRQ HV HRV HLT HNX;have HRD := Hd hr
 have HD := Hd hd
 have HX := Hd hx
 have HKD := Hd hk
 have HM := Hd (DG.refl HG.out.at_)
 clear h hx hdst hsrc hq hv hlt hd hd1 hr hr1 hb0 hbl HRQ HEQ hk;go_enter func50,ntmps50;go_upto_region 1 with fail
 generalize (w.alloc (.cells x.cells.toArray 47)) = Wd at HG HM HB0 ⊢;generalize w.heap.size = bx at HB0 HLOW ⊢;have b0 : Wd.cell? ⟨bx,0,none⟩ = some (.int .i8 1) := by rw [← HKD.out]; exact HB0.out.cell 0
 go_upto_region 5 with fail
 have b6 : Wd.cell? ⟨bx,6,none⟩ = some (.int .i8 x.src) := HB0.out.cell 6;have b7 : Wd.cell? ⟨bx,7,none⟩ = some (.int .i64 x.off) := HB0.out.cell 7;go_wp2_with fail
 refine (HP.out _ _ _ HM.out.at_).mono ?_;rintro e w1 ⟨rfl,hi1,F1,G1,hm1⟩;replace HM := Hd (HM.out.trans hm1)
 have HI1 := Hd hi1
 clear hm1 hi1 b6 b7 b0;have b3 : w1.cell? ⟨bx,3,none⟩ = some (.int .i8 x.size) := (HM.out.blk HB0.out HLOW.out).1.cell 3;go_wp2_with fail
 refine (HV.out _ _ _ HM.out.at_).mono ?_;rintro e w2 ⟨rfl,hi2,F2,G2,hm2⟩;replace HM := Hd (HM.out.trans hm2)
 have HNI := Hd hi2
 clear hm2 hi2 b3;have HX1 := Hd (show EvD.wf ⟨0,x.size,nq,nv,0,[]⟩ from ⟨by unfold I8; dsimp only; omega,HX.out.2.2.2.1,HI1.out,HNI.out,zbF⟩)
 have HV1 := Hd (fun (W : World) (H : Nat → Prop) => (zbk.nil : zbk W H (.slice none 0 0) []))
 go_upto_region 7 with fail
 have hdr := HM.out.step ((Below.refl _ _).drew);replace HM := Hd hdr
 clear hdr;obtain ⟨es,qe,c12,hBm,hown,hqe,hqw,hes⟩ := HM.out.at_.ces;obtain ⟨A,c,rfl,hAc,_⟩ := za5.of_own (F := fun _ => False) hown (fun _ _ q => q);refine zac (fun w' => Blk w' bx 47 x.cells.toArray) (fun w' => w'.cell? ⟨b,12,none⟩ = some (.slice A mv.evs.length c)) [16] (by kernel_rfl) ?_;generalize w2.drew = W3 at HM c12 hBm hown hqw ⊢;have HT := Hd (HM.out.blk HB0.out HLOW.out).1
 have HLW := Hd (HM.out.blk HB0.out HLOW.out).2
 have HS := Hd c12
 have HBM := Hd hBm
 have HO := Hd hown
 have HQ := Hd hqe
 have HQW := Hd hqw
 have HES := Hd hes
 clear c12 hBm hown hqe hqw hes hAc;refine em 0 (.pointer (some ⟨b,0,none⟩)) (bS HT HS) ?_;refine em 1 (.pointer (some ⟨b,0,none⟩)) (bS HT HS) ?_;refine ez 2 ⟨b,0,none⟩ (bS HT HS) ?_;refine ef 3 ⟨b,0,none⟩ ⟨b,1,none⟩ (bS HT HS) ?_;refine ef 4 ⟨b,1,none⟩ ⟨b,12,none⟩ (bS HT HS) ?_;refine el true 5 ⟨b,12,none⟩ (.slice A mv.evs.length c) underlying61 (fun w hS => (hS.2 rfl)) (bS HT HS) ?_;refine ef 6 ⟨bx,0,none⟩ ⟨bx,3,none⟩ (bS HT HS) ?_;refine el false 7 ⟨bx,3,none⟩ (.int .i8 x.size) underlying30 (fun w hS => (hS.1.cell 3)) (bS HT HS) ?_;refine em 8 (.int .i64 nq) (bS HT HS) ?_;refine em 9 (.int .i64 nv) (bS HT HS) ?_;refine zcH 10 (some 70) _ _ (#[(0,.int .i8 0),(1,.int .i8 x.size),(2,.int .i64 nq),(3,.int .i64 nv)]) (.agg (evC (⟨0,x.size,nq,nv,0,[]⟩,.slice none 0 0)).toArray) rfl (by kernel_rfl) (by rfl) (fun _ _ _ h => h) (by simp only [ztD,ztz,ztA] <;> rfl) (fun w => run_build w 72 _ _ (by kernel_rfl)) (bS HT HS) ?_;simp only [pt,pn,sL];refine zaN 11 (by kernel_rfl) (zar.slice_one 11 (some 71) _ 72 _ iA _ (.agg (evC (⟨0,x.size,nq,nv,0,[]⟩,.slice none 0 0)).toArray) rfl (by rfl) underlying61 IA.out.1 IA.out.2.1 (by rw [IA.out.2.2.1]; decide) (by rw [IA.out.2.2.1]; decide) (by rfl) (by rw [IA.out.2.2.1]; rfl) ?_);intro wa ga hga Ba La;have HBA := Hd Ba
 have HLA := Hd La
 replace HT := Hd (HT.out.below La HT.out.lt)
 replace HS := Hd ((La.cell (by exact HBM.out.lt)).trans HS.out)
 clear Ba La;refine ⟨.both HT.out HS.out,?_⟩;simp only [pt,pn,sL];refine zaN 12 (by kernel_rfl) (zar.append 12 (some 72) 61 72 _ _ (b + 1) iA _ 6 56 rfl (by rfl) underlying61 IA.out.1 IA.out.2.1 IA.out.2.2.1 IA.out.2.2.2 rfl (by omega) (.slice A mv.evs.length c) mv.evs.length (qe.flatMap evC) (by rfl) (zaG HO.out (fun k hk => HLA.out.block k (zaQ HO.out k hk).2)) _ (some ⟨ga,0,none⟩) 1 1 (evC (⟨0,x.size,nq,nv,0,[]⟩,.slice none 0 0)) (by rfl) (zbH HBA.out 1 6 rfl) (EvD.one rfl) (by have := HLT.out; unfold maxLen; omega) (by have := HLT.out; omega) (zto HM.out.at_.lt HLA.out.size) ?_);intro es2 wb R2 G2 O2;have HR2 := Hd R2
 have HG2 := Hd ((za4 HLA.out (Value.ownBlock (.slice A mv.evs.length c))).trans G2)
 have HO2 := Hd (fun k (hk : es2.ownBlock = some k) => (O2.elim (fun e => .inl (e ▸ hk)) (fun e => .inr (by rw [e] at hk; injection hk with hk; rw [← hk]; exact HLA.out.size)) : (Value.slice A mv.evs.length c).ownBlock = some k ∨ W3.heap.size ≤ k))
 replace HT := Hd (HT.out.grown G2 (fun e => HLW.out (HES.out _ e.symm).1))
 replace HS := Hd ((World.cell?_of_block (a := ⟨b,12,none⟩) (G2.block b (zty HBM.out.lt HLA.out.size) (fun e => (HES.out _ e.symm).2.2 rfl))).trans HS.out)
 clear R2 G2 O2;refine ⟨.both HT.out HS.out,?_⟩;simp only [pt,pn,sL];refine ez 13 ⟨b,0,none⟩ (bS HT HS) ?_;refine ef 14 ⟨b,0,none⟩ ⟨b,1,none⟩ (bS HT HS) ?_;refine ef 15 ⟨b,1,none⟩ ⟨b,12,none⟩ (bS HT HS) ?_;refine zaN 16 (by kernel_rfl) (zar.store_at 16 61 _ _ ⟨b,12,none⟩ es2 _ rfl (by rfl) (by rfl) (by rfl) (zaE 61 b 12 120 _ _ (HBM.out.grown HG2.out (fun e => (HES.out _ e.symm).2.2 rfl)) (by rw [zt3,zco HM.out.at_.len]; decide) zsw (zdO HR2.out) (zdP HR2.out)) (.after (HT.out.far (fun e => HLW.out (e ▸ HM.out.at_.nb.2)) _) (by kernel_rfl)) ?_);simp only [pt,pn,sL];refine zab (by kernel_rfl) ?_ _;replace HM := Hd (HM.out.trans (HM.out.at_.push HBM.out HO.out HQ.out HQW.out HES.out HX1.out (HV1.out _ _) HLT.out HR2.out HG2.out HO2.out))
 clear HT HS HBM HO HQ HQW HES HR2 HG2 HO2 HLW HBA HLA;go_upto_region 8 with fail
 generalize wb.setCell ⟨b,12,none⟩ es2 = W4 at HM ⊢;refine zac (fun w' => Blk w' bx 47 x.cells.toArray) (fun _ => True) [8] (by kernel_rfl) ?_;replace HM := Hd (HM.out.step ((Below.refl _ _).drew))
 generalize W4.drew = W5 at HM ⊢;have HT := Hd (HM.out.blk HB0.out HLOW.out).1
 refine em 0 (.pointer (some ⟨b,0,none⟩)) (bT HT) ?_;refine ef 1 ⟨bx,0,none⟩ ⟨bx,5,none⟩ (bT HT) ?_;refine el false 2 ⟨bx,5,none⟩ (.int .i8 x.dst) underlying30 (fun w hS => (hS.1.cell 5)) (bT HT) ?_;refine em 3 (.int .i64 nv) (bT HT) ?_;refine ez 4 ⟨b,0,none⟩ (bT HT) ?_;refine ef 5 ⟨b,0,none⟩ ⟨b,1,none⟩ (bT HT) ?_;refine ef 6 ⟨b,1,none⟩ ⟨b,1,none⟩ (bT HT) ?_;refine ej 7 (.pointer (some ⟨b,1,none⟩)) (.int .i8 x.dst) (.pointer (some ⟨b,1 + d,none⟩)) (zbW b HRD.out HD.out) (bT HT) ?_;obtain ⟨es,qe,hBs,_⟩ := HM.out.at_.box;have HM2 := Hd (HM.out.trans (HM.out.at_.setReg HD.out HNI.out))
 refine zaN 8 (by kernel_rfl) (zar.store_at 8 3 _ _ ⟨b,1 + d,none⟩ (.int .i64 nv) _ rfl (by rfl) (by rfl) (by rfl) (zaE 3 b (1 + d) 120 _ _ hBs (by rw [zt3,zco HM.out.at_.len]; have := HD.out; omega) zrp rfl rfl) (.after (HM2.out.blk HB0.out HLOW.out).1 (by kernel_rfl)) ?_);clear hBs;simp only [pt,pn,sL];refine zab (by kernel_rfl) ?_ _;go_end0;rw [HNX.out];exact ⟨rfl,_,_,HG.out.trans HM2.out⟩
theorem zkk (h : DA base g b F G m ex w)(x : ID)(hk : x.kind = 2)(hx : x.wf)(hdst : 0 ≤ x.dst ∧ x.dst ≤ 10)(hsrc : 0 ≤ x.src ∧ x.src ≤ 10)(hsz : 1 ≤ x.size ∧ x.size ≤ 8)(hlt : m.evs.length < 64) : Calls prog 50 #[.pointer (some ⟨b,0,none⟩),.agg x.cells.toArray] w (znC base g b G ex w (m.store x)) := by
 obtain ⟨iA,hiA,hzA,hsA,hbA⟩ := info_parts zsv;have IA := Hd (ztp hiA (ztp hzA (ztp hsA hbA)))
 clear hiA hzA hsA hbA;have hb0 : base ≤ w.heap.size := zto (h.low b h.nb.2).1 (ztu h.lt);have hbl := ((Below.refl w.heap.size w).alloc (ztn _) (.cells x.cells.toArray 47));have HG := Hd (DG.of_below h hbl)
 have HB0 := Hd (show Blk (w.alloc (.cells x.cells.toArray 47)) w.heap.size 47 x.cells.toArray from Blk.new w 47 x.cells.toArray)
 have HLOW := Hd (fun (e : G w.heap.size) => by have := (h.low _ e).2; omega : ¬ G w.heap.size)
 obtain ⟨d1,hr1,hd1⟩ := I8.nat hdst;obtain ⟨q,hq⟩ : ∃ q,m.place x.dst x.off = q := ⟨_,rfl⟩;have HP := Hd (fun (W : World) (F G : Nat → Prop) (hW : DA base g b F G m ex W) => by have := zgA hW x.dst x.off hr1 hd1 hx.2.2.2.2.2.2.1; rw [hq] at this; exact this)
 have HRQ := Hd (show q.1.regs = m.regs by rw [← hq]; rfl)
 have HEQ := Hd (show q.1.evs = m.evs by rw [← hq]; rfl)
 have hwr : IntKind.i8.wrap (8 * x.size) = 8 * x.size := zfq (by omega);have hqw : WfP q.1.p ∧ ∀ t ∈ q.1.p.T,t.wf := by rw [← hq]; exact zlx h x.dst x.off
 obtain ⟨d,hr,hd⟩ := I8.nat hsrc;have hri := h.reg_i64 hd;have hrr : m.reg x.src = m.regs.getD d 0 := by unfold SM.reg; rw [hr,ztx]
 obtain ⟨rs,hrs⟩ : ∃ r,zfl q.1.p (8 * x.size) (m.regs.getD d 0) = r := ⟨_,rfl⟩;have HO := Hd (fun (W : World) (F : Nat → Prop) (hW : zaO W base F g q.1.p) (hb : base ≤ W.heap.size) => by have hf := zdq hW.wf (8 * x.size) (m.regs.getD d 0); rw [hrs] at hf; exact zrg _ (8 * x.size) (m.regs.getD d 0) rs hf W hW hb)
 have HON := Hd (show I64 rs.2.1 by rw [← hrs]; exact zh7 hqw.1 hqw.2 _ hri)
 obtain ⟨ms,hms⟩ : ∃ s : SM,(⟨rs.1,q.1.regs,q.1.evs,if q.1.err = 0 then rs.2.2 else q.1.err⟩ : SM) = s := ⟨_,rfl⟩;have HMS := Hd hms
 have HLT := Hd (show ms.evs.length < 64 by rw [← hms]; show q.1.evs.length < 64; rw [HEQ.out]; exact hlt)
 have HNX := Hd (show m.store x = ms.event ⟨1,x.size,q.2,rs.2.1,0,[]⟩ by rw [← hms]; unfold SM.store; dsimp only; rw [hq,hrr,hrs]; rfl)
 obtain ⟨mq,nq⟩ := q;obtain ⟨rp,rn,re⟩ := rs;dsimp only at HP HRQ HO HON HNX HMS;have HRD := Hd hr
 have HD := Hd hd
 have HX := Hd hx
 have HWR := Hd hwr
 have HKD := Hd hk
 have hb1 := zto hb0 HG.out.size;have HM := Hd (DG.refl HG.out.at_)
 clear h hx hdst hsrc hq hlt hd hd1 hr hr1 hb0 hbl HEQ hqw hrs hri hrr hwr hk hms;go_enter func50,ntmps50;go_upto_region 1 with fail
 generalize (w.alloc (.cells x.cells.toArray 47)) = Wd at HG HM HB0 hb1 ⊢;generalize w.heap.size = bx at HB0 HLOW ⊢;have b0 : Wd.cell? ⟨bx,0,none⟩ = some (.int .i8 2) := by rw [← HKD.out]; exact HB0.out.cell 0
 go_upto_region 10 with fail
 have b5 : Wd.cell? ⟨bx,5,none⟩ = some (.int .i8 x.dst) := HB0.out.cell 5;have b7 : Wd.cell? ⟨bx,7,none⟩ = some (.int .i64 x.off) := HB0.out.cell 7;go_wp2_with fail
 refine (HP.out _ _ _ HM.out.at_).mono ?_;rintro e w1 ⟨rfl,hi1,F1,G1,hm1⟩;replace HM := Hd (HM.out.trans hm1)
 have HI1 := Hd hi1
 clear hm1 hi1 b5 b7 b0;go_upto_region 11 with fail
 refine zac (fun w' => Blk w' bx 47 x.cells.toArray) (MT b g m.regs) [] (by kernel_rfl) ?_;replace HM := Hd (HM.out.step ((Below.refl _ _).drew))
 generalize w1.drew = W3 at HM ⊢;have HT := Hd (HM.out.blk HB0.out HLOW.out).1
 have HS := Hd (show MT b g m.regs W3 from HRQ.out ▸ HM.out.at_.mt)
 refine em 0 (.pointer (some ⟨b,0,none⟩)) (bS HT HS) ?_;refine em 1 (.pointer (some ⟨b,0,none⟩)) (bS HT HS) ?_;refine ez 2 ⟨b,0,none⟩ (bS HT HS) ?_;refine ef 3 ⟨b,0,none⟩ ⟨b,0,none⟩ (bS HT HS) ?_;refine el true 4 ⟨b,0,none⟩ (.pointer (some ⟨g,0,none⟩)) underlying52 (fun w hS => (hS.2 rfl).1) (bS HT HS) ?_;refine ef 5 ⟨bx,0,none⟩ ⟨bx,3,none⟩ (bS HT HS) ?_;refine el false 6 ⟨bx,3,none⟩ (.int .i8 x.size) underlying30 (fun w hS => (hS.1.cell 3)) (bS HT HS) ?_;refine eb 7 (.int .i8 (8 * x.size)) rfl (fun o e w _ => by unfold execOp; simp only [e]; go_simp; rw [HWR.out]) (bS HT HS) ?_;refine em 8 (.pointer (some ⟨b,0,none⟩)) (bS HT HS) ?_;refine ef 9 ⟨bx,0,none⟩ ⟨bx,6,none⟩ (bS HT HS) ?_;refine el false 10 ⟨bx,6,none⟩ (.int .i8 x.src) underlying30 (fun w hS => (hS.1.cell 6)) (bS HT HS) ?_;refine ez 11 ⟨b,0,none⟩ (bS HT HS) ?_;refine ef 12 ⟨b,0,none⟩ ⟨b,1,none⟩ (bS HT HS) ?_;refine ef 13 ⟨b,1,none⟩ ⟨b,1,none⟩ (bS HT HS) ?_;refine ej 14 (.pointer (some ⟨b,1,none⟩)) (.int .i8 x.src) (.pointer (some ⟨b,1 + d,none⟩)) (zbW b HRD.out HD.out) (bS HT HS) ?_;refine el true 15 ⟨b,1 + d,none⟩ (.int .i64 (m.regs.getD d 0)) underlying3 (fun w hS => ((hS.2 rfl).2 d HD.out)) (bS HT HS) ?_;refine ec 16 (HO.out _ _ HM.out.at_.pool (zto hb1 HM.out.size)) ?_;rintro e wq ⟨rfl,Fq,hpq⟩;replace HM := Hd (HM.out.trans (HM.out.at_.pg hpq))
 replace HT := Hd (HM.out.blk HB0.out HLOW.out).1
 replace HS := Hd (show MT b g m.regs wq from HRQ.out ▸ HM.out.at_.mt)
 clear hpq;refine ek (bS HT HS) ?_;refine eg 17 (.int .i64 rn) (bS HT HS) ?_;refine eg 18 (.int .i64 re) (bS HT HS) ?_;refine ec 19 (zcA HM.out.at_ (rn) (re) HON.out) ?_;rintro e wq ⟨rfl,_,Fq,Gq,hmq⟩;replace HM := Hd (HM.out.trans hmq)
 replace HT := Hd (HM.out.blk HB0.out HLOW.out).1
 replace HS := Hd (show MT b g m.regs wq from HRQ.out ▸ HM.out.at_.mt)
 clear hmq;refine ek (bS HT HS) ?_;refine eS 20 (.int .i64 rn) (bS HT HS) ?_;refine zab (by kernel_rfl) ?_ _;clear HT HS;have HX1 := Hd (show EvD.wf ⟨1,x.size,nq,rn,0,[]⟩ from ⟨by unfold I8; dsimp only; omega,HX.out.2.2.2.1,HI1.out,HON.out,zbF⟩)
 have HV1 := Hd (fun (W : World) (H : Nat → Prop) => (zbk.nil : zbk W H (.slice none 0 0) []))
 go_upto_region 12 with fail
 rw [HMS.out] at HM;have hdr := HM.out.step ((Below.refl _ _).drew);replace HM := Hd hdr
 clear hdr;obtain ⟨es,qe,c12,hBm,hown,hqe,hqw,hes⟩ := HM.out.at_.ces;obtain ⟨A,c,rfl,hAc,_⟩ := za5.of_own (F := fun _ => False) hown (fun _ _ q => q);refine zac (fun w' => Blk w' bx 47 x.cells.toArray) (fun w' => w'.cell? ⟨b,12,none⟩ = some (.slice A ms.evs.length c)) [16] (by kernel_rfl) ?_;generalize wq.drew = W5 at HM c12 hBm hown hqw ⊢;have HT := Hd (HM.out.blk HB0.out HLOW.out).1
 have HLW := Hd (HM.out.blk HB0.out HLOW.out).2
 have HS := Hd c12
 have HBM := Hd hBm
 have HO := Hd hown
 have HQ := Hd hqe
 have HQW := Hd hqw
 have HES := Hd hes
 clear c12 hBm hown hqe hqw hes hAc;refine em 0 (.pointer (some ⟨b,0,none⟩)) (bS HT HS) ?_;refine em 1 (.pointer (some ⟨b,0,none⟩)) (bS HT HS) ?_;refine ez 2 ⟨b,0,none⟩ (bS HT HS) ?_;refine ef 3 ⟨b,0,none⟩ ⟨b,1,none⟩ (bS HT HS) ?_;refine ef 4 ⟨b,1,none⟩ ⟨b,12,none⟩ (bS HT HS) ?_;refine el true 5 ⟨b,12,none⟩ (.slice A ms.evs.length c) underlying61 (fun w hS => (hS.2 rfl)) (bS HT HS) ?_;refine ef 6 ⟨bx,0,none⟩ ⟨bx,3,none⟩ (bS HT HS) ?_;refine el false 7 ⟨bx,3,none⟩ (.int .i8 x.size) underlying30 (fun w hS => (hS.1.cell 3)) (bS HT HS) ?_;refine em 8 (.int .i64 nq) (bS HT HS) ?_;refine em 9 (.int .i64 rn) (bS HT HS) ?_;refine zcH 10 (some 122) _ _ (#[(0,.int .i8 1),(1,.int .i8 x.size),(2,.int .i64 nq),(3,.int .i64 rn)]) (.agg (evC (⟨1,x.size,nq,rn,0,[]⟩,.slice none 0 0)).toArray) rfl (by kernel_rfl) (by rfl) (fun _ _ _ h => h) (by simp only [ztD,ztz,ztA] <;> rfl) (fun w => run_build w 72 _ _ (by kernel_rfl)) (bS HT HS) ?_;simp only [pt,pn,sL];refine zaN 11 (by kernel_rfl) (zar.slice_one 11 (some 123) _ 72 _ iA _ (.agg (evC (⟨1,x.size,nq,rn,0,[]⟩,.slice none 0 0)).toArray) rfl (by rfl) underlying61 IA.out.1 IA.out.2.1 (by rw [IA.out.2.2.1]; decide) (by rw [IA.out.2.2.1]; decide) (by rfl) (by rw [IA.out.2.2.1]; rfl) ?_);intro wa ga hga Ba La;have HBA := Hd Ba
 have HLA := Hd La
 replace HT := Hd (HT.out.below La HT.out.lt)
 replace HS := Hd ((La.cell (by exact HBM.out.lt)).trans HS.out)
 clear Ba La;refine ⟨.both HT.out HS.out,?_⟩;simp only [pt,pn,sL];refine zaN 12 (by kernel_rfl) (zar.append 12 (some 124) 61 72 _ _ (b + 1) iA _ 6 56 rfl (by rfl) underlying61 IA.out.1 IA.out.2.1 IA.out.2.2.1 IA.out.2.2.2 rfl (by omega) (.slice A ms.evs.length c) ms.evs.length (qe.flatMap evC) (by rfl) (zaG HO.out (fun k hk => HLA.out.block k (zaQ HO.out k hk).2)) _ (some ⟨ga,0,none⟩) 1 1 (evC (⟨1,x.size,nq,rn,0,[]⟩,.slice none 0 0)) (by rfl) (zbH HBA.out 1 6 rfl) (EvD.one rfl) (by have := HLT.out; unfold maxLen; omega) (by have := HLT.out; omega) (zto HM.out.at_.lt HLA.out.size) ?_);intro es2 wb R2 G2 O2;have HR2 := Hd R2
 have HG2 := Hd ((za4 HLA.out (Value.ownBlock (.slice A ms.evs.length c))).trans G2)
 have HO2 := Hd (fun k (hk : es2.ownBlock = some k) => (O2.elim (fun e => .inl (e ▸ hk)) (fun e => .inr (by rw [e] at hk; injection hk with hk; rw [← hk]; exact HLA.out.size)) : (Value.slice A ms.evs.length c).ownBlock = some k ∨ W5.heap.size ≤ k))
 replace HT := Hd (HT.out.grown G2 (fun e => HLW.out (HES.out _ e.symm).1))
 replace HS := Hd ((World.cell?_of_block (a := ⟨b,12,none⟩) (G2.block b (zty HBM.out.lt HLA.out.size) (fun e => (HES.out _ e.symm).2.2 rfl))).trans HS.out)
 clear R2 G2 O2;refine ⟨.both HT.out HS.out,?_⟩;simp only [pt,pn,sL];refine ez 13 ⟨b,0,none⟩ (bS HT HS) ?_;refine ef 14 ⟨b,0,none⟩ ⟨b,1,none⟩ (bS HT HS) ?_;refine ef 15 ⟨b,1,none⟩ ⟨b,12,none⟩ (bS HT HS) ?_;refine zaN 16 (by kernel_rfl) (zar.store_at 16 61 _ _ ⟨b,12,none⟩ es2 _ rfl (by rfl) (by rfl) (by rfl) (zaE 61 b 12 120 _ _ (HBM.out.grown HG2.out (fun e => (HES.out _ e.symm).2.2 rfl)) (by rw [zt3,zco HM.out.at_.len]; decide) zsw (zdO HR2.out) (zdP HR2.out)) (.after (HT.out.far (fun e => HLW.out (e ▸ HM.out.at_.nb.2)) _) (by kernel_rfl)) ?_);simp only [pt,pn,sL];refine zab (by kernel_rfl) ?_ _;go_end0;rw [HNX.out];exact ⟨rfl,_,_,HG.out.trans (HM.out.trans (HM.out.at_.push HBM.out HO.out HQ.out HQW.out HES.out HX1.out (HV1.out _ _) HLT.out HR2.out HG2.out HO2.out))⟩
end
end
end Go.Proofs.YtepagfkkjlbipaaGreat
