/-
  Parts of the proof of SymbcRuns. Conditions: those written in each statement.
-/
import Derived.Test.YtepagfkkjlbipaaGreatKau
set_option linter.unusedVariables false
set_option linter.unusedSimpArgs false
set_option maxHeartbeats 64000000
set_option maxRecDepth 100000
namespace Go.Proofs.YtepagfkkjlbipaaGreat
open Go.RowKit
open Tryz
section
def rgC (l : List Int) : List Value := l.map (Value.int .i64)
def zbf (st : PS → Nat → RS)(p : PS) : Nat → PS × List Int × Int
 | 0 => (p,[],0)
 | k + 1 => let r := zbf st p k; if r.2.2 = 0 then let s := st r.1 k; (s.1,r.2.1 ++ [s.2.1],s.2.2) else r
def zcg (st : PS → Nat → RS)(p : PS) : PS × List Int × Int := let r := zbf st p 11; if r.2.2 = 0 then r else (r.1,zan,r.2.2)
theorem zdm {st : PS → Nat → RS}{p : PS}{k : Nat}(h : (zbf st p k).2.2 = 0) : zbf st p (k + 1) = ((st (zbf st p k).1 k).1,(zbf st p k).2.1 ++ [(st (zbf st p k).1 k).2.1],(st (zbf st p k).1 k).2.2) := by
 rw [zbf];dsimp only;rw [if_pos h]
theorem zdR {st : PS → Nat → RS}{p : PS} : ∀ {k : Nat},(zbf st p k).2.2 = 0 → (zbf st p k).2.1.length = k
 | 0,_ => rfl
 | k + 1,h => by
  by_cases h0 : (zbf st p k).2.2 = 0
  ·rw [zdm h0]
   simp [zdR h0]
  ·rw [zbf] at h
   dsimp only at h;rw [if_neg h0] at h;exact absurd h h0
theorem zf2 {st : PS → Nat → RS}{p : PS}{k j : Nat}(h : (zbf st p k).2.2 ≠ 0)(hj : k ≤ j) : zbf st p j = zbf st p k := by
 obtain ⟨d,rfl⟩ : ∃ d,j = k + d := ⟨j - k,by omega⟩
 induction d with
 | zero => rfl
 | succ d ih =>
  rw [← Nat.add_assoc,zbf];dsimp only;rw [ih (by omega),if_neg h]
theorem zh0 (st : PS → Nat → RS)(p : PS) : ((zcg st p).2.1.map (Value.int .i64)).length = 11 := by
 rw [List.length_map];unfold zcg;dsimp only
 split
 ·rename_i h; exact zdR h
 ·rfl
def zgL (l : List Int) : List Value := rgC (l ++ List.replicate (11 - l.length) 0)
theorem zjJ {l : List Int}(h : l.length ≤ 11) : (zgL l).length = 11 := by unfold zgL rgC; simp; omega
theorem zhl {l : List Int}(h : l.length < 11)(n : Int) : (zgL l).set l.length (.int .i64 n) = zgL (l ++ [n]) := by
 unfold zgL rgC;rw [List.map_append,List.map_append,List.set_append_right _ _ (by simp)];obtain ⟨d,hd⟩ : ∃ d,11 - l.length = d + 1 := ⟨10 - l.length,by omega⟩;rw [hd,List.length_append,show 11 - (l.length + [n].length) = d by simp; omega];simp [List.replicate_succ]
theorem zf3 {l : List Int}(h : l.length = 11) : zgL l = rgC l := by unfold zgL; simp [h]
theorem zjK : zgL [] = rgC zan := rfl
theorem zb9 (l : List Int) : ∀ u ∈ rgC l,u.oneCell' = true := by
 intro u hu;obtain ⟨_,_,rfl⟩ := List.mem_map.1 hu
 rfl
theorem zee : (prog.info? 57).map (·.size) = some 11 := by kernel_rfl
theorem zml : ∀ w : World,(zeroValue 57).run prog w = .ok (.agg (rgC zan).toArray) w := fun w => by kernel_rfl
theorem zhm (w : World) : (Instr.build 57 #[]).run prog w = .ok (.agg (rgC zan).toArray) w := by kernel_rfl
section
variable {base g : Nat}{F : Nat → Prop}{p : PS}{w : World}
theorem PG.own {F1 : Nat → Prop}{p1 : PS}{w1 w2 : World}{b : Nat}(h : PG base g F w F1 p1 w1)(hb : ¬ F1 b)(hw : w.heap.size ≤ b)(hc : Chg (fun k => k = b) w1 w2) : PG base g F w F1 p1 w2 :=
 ⟨h.pool.chg hc (fun k q e => hb (e ▸ q)),⟨hc.os.trans h.chg.os,hc.tape.trans h.chg.tape,hc.output.trans h.chg.output,zto h.chg.size hc.size,fun k hk hn => (hc.block k (zty hk h.chg.size) (by omega)).trans (h.chg.block k hk hn)⟩,h.new⟩
theorem ziN {l : List Int}(h : l.length < 11) : (zgL l)[l.length]? = some (.int .i64 0) := by
 unfold zgL rgC;rw [List.map_append,zuh (by simp),List.length_map,Nat.sub_self];obtain ⟨d,hd⟩ : ∃ d,11 - l.length = d + 1 := ⟨10 - l.length,by omega⟩;rw [hd]
 rfl
def zqn (base g : Nat)(F : Nat → Prop)(w : World)(r : PS × List Int × Int)(e : Ending)(w' : World) : Prop := e = .returned (.tuple #[.agg (rgC r.2.1).toArray,.int .i64 r.2.2]) ∧ ∃ F',PG base g F w F' r.1 w'
theorem zjL (h : zam w base F g p)(hbase : base ≤ w.heap.size)(f : Nat)(caps : Array Value)(he : za1 f)(st : PS → Nat → RS)
  (H : ∀ (i : Nat),i < 11 → ∀ (W : World) (F1 : Nat → Prop) (p1 : PS),PG base g F w F1 p1 W → base ≤ W.heap.size → Calls prog f (#[.int .i64 (i : Int)] ++ caps) W (zbT base g F1 W (st p1 i))) :
  Calls prog 34 #[.func (.func f) #[] caps] w (zqn base g F w (zcg st p)) := by
 have he' : ∀ args w,(callFunc f args).run prog w = .ok (.enter f args) w := he;have hb0 : Below w.heap.size w (w.alloc (.cells (rgC zan).toArray 57)) := (Below.refl _ w).alloc (ztn _) _;have HP := Hd (PG.of_below h hb0)
 have HB := Hd (show Blk (w.alloc (.cells (rgC zan).toArray 57)) w.heap.size 57 (zgL []).toArray from Blk.new w 57 (rgC zan).toArray)
 have HNF := Hd (fun q => by have := (h.fb _ q).2; omega : ¬ F w.heap.size)
 have HH := Hd H
 have HBS := Hd hbase
 have zr := zml;clear h H hb0 hbase he;go_enter func34,ntmps34;go_wp2;obtain ⟨bx,hbx⟩ : ∃ k,w.heap.size = k := ⟨_,rfl⟩;rw [hbx] at HB HNF ⊢;have HBX := Hd hbx
 clear hbx;generalize w.alloc (.cells (rgC zan).toArray 57) = w0 at HP HB ⊢;go_loopw [3,5] (fun v i wr => ∃ k : Nat,k ≤ 11 ∧ i = .int .i64 k ∧ v = .int .i64 0 ∧ Hid ((zbf st p k).2.2 = 0) ∧ ∃ F',PG base g F w F' (zbf st p k).1 wr ∧ Blk wr bx 57 (zgL (zbf st p k).2.1).toArray ∧ ¬ F' bx) (fun _ i _ => 11 - (intOf i).toNat)
 case atStart => exact ⟨0,by omega,rfl,rfl,Hd rfl,F,HP.out,HB.out,HNF.out⟩
 case round =>
  obtain ⟨k,hk,rfl,rfl,hr0,F',hp,hbk,hnf⟩ := hrel;clear HP HB HNF;have HRL := Hd (zdR hr0.out)
  have hsz := hp.chg.size
  by_cases hlt : k < 11
  ·have HSU := Hd (zdm (st := st) (p := p) hr0.out)
   obtain ⟨r,hr⟩ : ∃ r,zbf st p k = r := ⟨_,rfl⟩;rw [hr] at hr0 hp hbk HRL HSU;obtain ⟨s,hs⟩ : ∃ s,st r.1 k = s := ⟨_,rfl⟩;have HC := Hd (by have := HH.out k hlt wr F' r.1 hp (zto HBS.out hsz); rw [hs] at this; exact this)
   rw [hs] at HSU;obtain ⟨rp,rl,re⟩ := r;obtain ⟨sp,sn,se⟩ := s;dsimp only at hr0 hp hbk HRL HSU HC;have HP := Hd hp
   have HB := Hd (ztp hbk hnf)
   clear hp hbk hnf hr hs hr0 hsz;go_wp2_with fail
   refine HC.out.mono ?_;rintro e w1 ⟨rfl,F2,hp2⟩;have HP2 := Hd (HP.out.trans hp2)
   have HB2 := Hd (hp2.blk HB.out.1 HB.out.2)
   clear hp2 HC HP HB;have ck : w1.cell? ⟨bx,k,none⟩ = some (.int .i64 0) := by
    rw [HB2.out.1.cell k,ztK];have := ziN (l := rl) (by rw [HRL.out]; exact hlt);rw [HRL.out] at this;exact this
   have fk := HB2.out.1.frozen k;have HB3 := Hd (show Blk (w1.setCell ⟨bx,k,none⟩ (.int .i64 sn)) bx 57 (zgL (rl ++ [sn])).toArray by
    have h1 := HB2.out.1.set_ k (.int .i64 sn);rw [zuc] at h1;have h2 := zhl (l := rl) (by rw [HRL.out]; exact hlt) sn;rw [HRL.out] at h2;rw [h2] at h1;exact h1)
   have HP3 := Hd (HP2.out.own (w2 := w1.setCell ⟨bx,k,none⟩ (.int .i64 sn)) HB2.out.2 (by have := HBX.out; omega) (zbs (b := bx) rfl _ rfl))
   cases hse : (se != 0)
   ·go_wp2
    go_roundw
    case measure => simp [intOf]; omega
    case rel =>
     refine ⟨k + 1,by omega,by go_num,by simpa using hse,?_,F2,?_,?_,HB2.out.2⟩
     ·rw [HSU.out]; exact Hd (by simpa using hse)
     ·rw [HSU.out]; exact HP3.out
     ·rw [HSU.out]; exact HB3.out
   ·have HV := Hd (show zcg st p = (sp,zan,se) by
     have hne : (zbf st p (k + 1)).2.2 ≠ 0 := by rw [HSU.out]; simpa using hse
     unfold zcg;dsimp only;rw [zf2 hne (by omega),if_neg hne,HSU.out])
    have qb := zhm;go_wp2_with (first
     | (refine zaa rfl 57 (.tmp 2) (.tmp 18) rfl bx 0 57 _ (rgC zan) (.agg (rgC zan).toArray) HB3.out (by rfl) (by rfl) rfl zee (by rw [zjJ (by rw [List.length_append,HRL.out]; simp; omega)]; simp [rgC,zan]) (zb9 _) ?_
        intro wq hBq hgq hsq;have HBQ := Hd hBq
        have HPQ := Hd (HP3.out.own HB2.out.2 (by have := HBX.out; omega) (Chg.of_grown hgq (fun k e => .inl (by injection e with e; exact e.symm))))
        clear hBq hgq hsq)
     | fail)
    have hov : zaM (zgL (rl ++ [sn])) 0 (rgC zan) = rgC zan := by
     unfold zaM;rw [zt6,List.nil_append,ztO,ztV (by rw [zjJ (by rw [List.length_append,HRL.out]; simp; omega)]; simp [rgC,zan]),ztE]
    have hx8 := HBQ.out;rw [hov] at hx8;have hrl := zaC (P := prog) wq ⟨bx,0,none⟩ 57 (rgC zan) _ (zak hx8) underlying57 rfl zee;refine bodyPost_ret (v := .tuple #[.agg (rgC zan).toArray,.int .i64 se]) ?_ rfl ⟨by rw [HV.out],F2,by rw [HV.out]; exact HPQ.out⟩;simp [results,results34,Act.put,asAddr,Result.andThen,hrl]
  ·obtain rfl : k = 11 := by omega
   have HV := Hd (show zcg st p = zbf st p 11 by unfold zcg; dsimp only; rw [if_pos hr0.out])
   have HE0 := Hd (show (zcg st p).2.2 = 0 by rw [HV.out]; exact hr0.out)
   have hfull := zf3 HRL.out;rw [hfull] at hbk;rw [← HV.out] at hp hbk HRL;obtain ⟨r,hr⟩ : ∃ r,zcg st p = r := ⟨_,rfl⟩;rw [hr] at hp hbk HRL HE0 ⊢;obtain ⟨rp,rl,re⟩ := r;dsimp only at hp hbk HRL HE0;have HP := Hd hp
   have HVR := Hd hr
   have HB := Hd hbk
   have HLR := Hd (show (rgC rl).length = 11 by unfold rgC; rw [List.length_map]; exact HRL.out)
   have hnf2 := Hd hnf
   clear hp hbk hr hr0 hfull hsz HV hnf;go_wp2_with (first
    | (refine zae rfl 57 (.tmp 2) rfl ⟨bx,0,none⟩ (by rfl) (rgC rl) _ (zak HB.out) underlying57 rfl (by rw [HLR.out]; exact zee) ?_)
    | (refine zaa rfl 57 (.tmp 2) (.tmp 21) rfl bx 0 57 _ (rgC rl) (.agg (rgC rl).toArray) HB.out (by rfl) (by rfl) rfl (by rw [HLR.out]; exact zee) (by omega) (zb9 _) ?_
       intro wq hBq hgq hsq;have HBQ := Hd hBq
       have HPQ := Hd (HP.out.own hnf2.out (by have := HBX.out; omega) (Chg.of_grown hgq (fun k e => .inl (by injection e with e; exact e.symm))))
       clear hBq hgq hsq)
    | fail)
   have hov : zaM (rgC rl) 0 (rgC rl) = rgC rl := by
    unfold zaM;rw [zt6,List.nil_append,ztO,ztV (ztn _),ztE]
   have hx8 := HBQ.out;rw [hov] at hx8;have hrl := zaC (P := prog) wq ⟨bx,0,none⟩ 57 (rgC rl) _ (zak hx8) underlying57 rfl (by rw [HLR.out]; exact zee);refine bodyPost_ret (v := .tuple #[.agg (rgC rl).toArray,.int .i64 0]) ?_ rfl ⟨by rw [HVR.out,HE0.out],_,by rw [HVR.out]; exact HPQ.out⟩;simp [results,results34,Act.put,asAddr,Result.andThen,hrl]
/-! ### Start, Entry -/
def zbX (p : PS)(i : Nat) : RS := putR p (zdJ (i : Int) 64)
def zdG (i : Nat) : Int := if i = 1 then 2097152 else if i = 10 then 3145792 else 0
def zbG (p : PS)(i : Nat) : RS := putR p (zaf (zdG i))
theorem zh1 : za1 35 := enters_of func35 (by kernel_rfl) rfl
theorem zh2 : za1 38 := enters_of func38 (by kernel_rfl) rfl
theorem zkJ (i : Nat)(hi : i < 11)(W : World)(F1 : Nat → Prop)(p1 : PS)(bp : Nat)(h : zam W base F1 g p1)(hbase : base ≤ W.heap.size)(hb : Blk W bp 50 #[.pointer (some ⟨g,0,none⟩)]) :
  Calls prog 35 #[.int .i64 (i : Int),.pointer (some ⟨bp,0,none⟩)] W (zbT base g F1 W (zbX p1 i)) := by
 have c0 := hb.cell 0;simp at c0;have HP := Hd h
 clear h hb;go_enter func35,ntmps35;go_wp2_with fail
 refine (zmk (i : Int) 64 (by omega) (by omega) (by unfold I8; omega) _ HP.out hbase).mono ?_;rintro e w1 ⟨rfl,hr⟩;have HR := Hd hr
 clear hr;go_wp2;go_ret2;exact ⟨rfl,HR.out⟩
theorem zh3 (h : zam w base F g p)(hbase : base ≤ w.heap.size) : Calls prog 14 #[.pointer (some ⟨g,0,none⟩)] w (zqn base g F w (zcg zbX p)) := by
 have zr := zml;obtain ⟨w1,hw1⟩ : ∃ v,(w.alloc (.cells #[.pointer (some ⟨g,0,none⟩)] 50)).alloc (.cells (rgC zan).toArray 57) = v := ⟨_,rfl⟩;have hb0 : Below w.heap.size w w1 := by rw [← hw1]; exact ((Below.refl _ w).alloc (ztn _) _).alloc (by simp) _
 have HP := Hd (PG.of_below h hb0)
 have HB := Hd (show Blk w1 w.heap.size 50 #[.pointer (some ⟨g,0,none⟩)] by rw [← hw1]; exact (Blk.new w 50 #[.pointer (some ⟨g,0,none⟩)]).alloc _)
 have HO := Hd (show Blk w1 (w.heap.size + 1) 57 (rgC zan).toArray by rw [← hw1]; exact Blk.new (w.alloc (.cells #[.pointer (some ⟨g,0,none⟩)] 50)) 57 (rgC zan).toArray |> fun q => by simpa using q)
 have HNF := Hd (fun b (hb : w.heap.size ≤ b) q => by have := (h.fb b q).2; omega : ∀ b,w.heap.size ≤ b → ¬ F b)
 obtain ⟨r,hr⟩ : ∃ r,zcg zbX p = r := ⟨_,rfl⟩;have HC := Hd (by
  have := zjL (HP.out.pool) (zto hbase HP.out.size) 35 #[.pointer (some ⟨w.heap.size,0,none⟩)] zh1 zbX (fun i hi W F1 p1 hp hb => zkJ i hi W F1 p1 w.heap.size hp.pool hb (hp.blk HB.out (HNF.out _ (ztn _))).1);rw [hr] at this;exact this)
 rw [hr];have HLR := Hd (show (rgC r.2.1).length = 11 by rw [← hr]; exact zh0 zbX p)
 obtain ⟨rp,rl,re⟩ := r;clear h hb0 hbase hr;go_enter func14,ntmps14;go_wp2_with fail
 refine HC.out.mono ?_;rintro e w2 ⟨rfl,F2,hp2⟩;have HP2 := Hd (HP.out.trans hp2)
 have HO2 := Hd (hp2.blk HO.out (HNF.out _ (by omega)))
 clear hp2 hw1 HC HP HB HO;go_wp2_with (first
  | (refine zaa rfl 57 (.tmp 2) (.tmp 6) rfl (w.heap.size + 1) 0 57 _ (rgC rl) (.agg (rgC rl).toArray) HO2.out.1 (by rfl) (by rfl) rfl (by rw [HLR.out]; exact zee) (by rw [HLR.out]; simp [rgC,zan]) (zb9 _) ?_
     intro wq hBq hgq hsq;have HBQ := Hd hBq
     have HPQ := Hd (HP2.out.own HO2.out.2 (by omega) (Chg.of_grown hgq (fun k e => .inl (by injection e with e; exact e.symm))))
     clear hBq hgq hsq)
  | fail)
 have hov : zaM (rgC zan) 0 (rgC rl) = rgC rl := by
  unfold zaM;rw [zt6,List.nil_append,ztO,ztV (by rw [HLR.out]; simp [rgC,zan]),ztE]
 have hx8 := HBQ.out;rw [hov] at hx8;have hrl := zaC (P := prog) wq ⟨w.heap.size + 1,0,none⟩ 57 (rgC rl) _ (zak hx8) underlying57 rfl (by rw [HLR.out]; exact zee);refine bodyPost_ret (v := .tuple #[.agg (rgC rl).toArray,.int .i64 re]) ?_ rfl ⟨rfl,_,HPQ.out⟩;simp [results,results14,Act.put,asAddr,Result.andThen,hrl]
def zf4 : List Value := [.int .u64 0,.int .u64 2097152,.int .u64 0,.int .u64 0,.int .u64 0,.int .u64 0,.int .u64 0,.int .u64 0,.int .u64 0,.int .u64 0,.int .u64 3145792]
theorem zow {i : Nat}(hi : i < 11) : zf4[i]? = some (.int .u64 (zdG i)) := by
 have h : i = 0 ∨ i = 1 ∨ i = 2 ∨ i = 3 ∨ i = 4 ∨ i = 5 ∨ i = 6 ∨ i = 7 ∨ i = 8 ∨ i = 9 ∨ i = 10 := by omega
 rcases h with rfl | rfl | rfl | rfl | rfl | rfl | rfl | rfl | rfl | rfl | rfl <;> rfl
theorem zf5 (i : Nat) : U64 (zdG i) := by
 unfold zdG U64
 split
 ·omega
 ·split <;> omega
theorem sizF : (prog.info? 83).map (·.size) = some 11 := by kernel_rfl
theorem ziO (w : World) : (Instr.build 83 #[(1,.int .u64 2097152),(10,.int .u64 3145792)]).run prog w = .ok (.agg zf4.toArray) w := by kernel_rfl
theorem zkK : ∀ u ∈ zf4,u.oneCell' = true := by
 intro u hu;simp only [zf4,ztM,zt5,or_false] at hu
 rcases hu with rfl | rfl | rfl | rfl | rfl | rfl | rfl | rfl | rfl | rfl | rfl <;> rfl
theorem zkL (i : Nat)(hi : i < 11)(W : World)(F1 : Nat → Prop)(p1 : PS)(bp bf : Nat)(h : zam W base F1 g p1)(hbase : base ≤ W.heap.size)(hb : Blk W bp 50 #[.pointer (some ⟨g,0,none⟩)])(hf : Blk W bf 83 zf4.toArray) :
  Calls prog 38 #[.int .i64 (i : Int),.pointer (some ⟨bp,0,none⟩),.pointer (some ⟨bf,0,none⟩)] W (zbT base g F1 W (zbG p1 i)) := by
 have c0 := hb.cell 0;simp at c0;have cf : W.cell? ⟨bf,i,none⟩ = some (.int .u64 (zdG i)) := by rw [hf.cell i,ztK]; exact zow hi
 have HV := Hd (zf5 i)
 obtain ⟨v,hv⟩ : ∃ v,zdG i = v := ⟨_,rfl⟩;have HE := Hd (show zbG p1 i = putR p1 (zaf v) by unfold zbG; rw [hv])
 rw [hv] at cf HV;have HP := Hd (show zam W.drew base F1 g p1 from h.drew)
 have HH := Hd h
 clear h hb hf hv;go_enter func38,ntmps38;go_upto_region 1 with fail
 go_region_with (first
  | (go_at_call 39; refine (zb1 v HV.out _ HP.out hbase).mono ?_; rintro e w' ⟨rfl,hr⟩))
 all_goals
  have HR := Hd hr
  clear hr;go_wp2;go_ret2;rw [HE.out];exact zbT.from (PG.of_below HH.out ((Below.refl _ _).drew)) ⟨rfl,HR.out⟩
theorem zmm (h : zam w base F g p)(hbase : base ≤ w.heap.size) : Calls prog 16 #[.pointer (some ⟨g,0,none⟩)] w (zqn base g F w (zcg zbG p)) := by
 have zr := zml;have qf := ziO;obtain ⟨w1,hw1⟩ : ∃ v,(w.alloc (.cells #[.pointer (some ⟨g,0,none⟩)] 50)).alloc (.cells (rgC zan).toArray 57) = v := ⟨_,rfl⟩;have hs1 : w1.heap.size = w.heap.size + 2 := by rw [← hw1]; simp
 have hb0 : Below w.heap.size w w1 := by rw [← hw1]; exact ((Below.refl _ w).alloc (ztn _) _).alloc (by simp) _
 have HP0 := Hd (PG.of_below h hb0)
 have HB0 := Hd (show Blk w1 w.heap.size 50 #[.pointer (some ⟨g,0,none⟩)] by rw [← hw1]; exact (Blk.new w 50 #[.pointer (some ⟨g,0,none⟩)]).alloc _)
 have HO0 := Hd (show Blk w1 (w.heap.size + 1) 57 (rgC zan).toArray by rw [← hw1]; exact Blk.new (w.alloc (.cells #[.pointer (some ⟨g,0,none⟩)] 50)) 57 (rgC zan).toArray |> fun q => by simpa using q)
 have HNF := Hd (fun b (hb : w.heap.size ≤ b) q => by have := (h.fb b q).2; omega : ∀ b,w.heap.size ≤ b → ¬ F b)
 have HBS := Hd hbase
 have HLR := Hd (show (rgC (zcg zbG p).2.1).length = 11 from zh0 zbG p)
 obtain ⟨r,hr⟩ : ∃ r,zcg zbG p = r := ⟨_,rfl⟩;rw [hr] at HLR ⊢;have HR0 := Hd hr
 clear h hb0 hbase hr;go_enter func16,ntmps16;go_upto_region 1 with fail
 clear hw1;have HS1 := Hd hs1
 clear hs1;go_wp2_with (first
  | (refine zag rfl 83 (.tmp 4) (.tmp 5) rfl _ zf4 (.agg zf4.toArray) (by rfl) (by rfl) rfl sizF (by rfl) zkK ?_
     intro w3 X3 L3 S3;have HP := Hd (HP0.out.step L3)
     have HB := Hd (HB0.out.below L3 HB0.out.lt)
     have HO := Hd (HO0.out.below L3 HO0.out.lt)
     have HFB := Hd X3
     clear X3 L3 S3)
  | fail)
 clear HP0 HB0 HO0;obtain ⟨bf,hbf⟩ : ∃ k,w1.heap.size = k := ⟨_,rfl⟩;rw [hbf] at HFB ⊢;have HBF := Hd (show bf = w.heap.size + 2 by rw [← hbf]; exact HS1.out)
 clear hbf HS1;have HC := Hd (by
  have := zjL (HP.out.pool) (zto HBS.out HP.out.size) 38 #[.pointer (some ⟨w.heap.size,0,none⟩),.pointer (some ⟨bf,0,none⟩)] zh2 zbG (fun i hi W F1 p1 hp hb => zkL i hi W F1 p1 w.heap.size bf hp.pool hb (hp.blk HB.out (HNF.out _ (ztn _))).1 (hp.blk HFB.out (HNF.out _ (by have := HBF.out; omega))).1);rw [HR0.out] at this;exact this)
 obtain ⟨rp,rl,re⟩ := r;dsimp only at HLR HC;go_wp2_with fail
 refine HC.out.mono ?_;rintro e w2 ⟨rfl,F2,hp2⟩;have HP2 := Hd (HP.out.trans hp2)
 have HO2 := Hd (hp2.blk HO.out (HNF.out _ (by omega)))
 clear hp2 HC HP HB HO HFB;go_wp2_with (first
  | (refine zaa rfl 57 (.tmp 2) (.tmp 8) rfl (w.heap.size + 1) 0 57 _ (rgC rl) (.agg (rgC rl).toArray) HO2.out.1 (by rfl) (by rfl) rfl (by rw [HLR.out]; exact zee) (by rw [HLR.out]; simp [rgC,zan]) (zb9 _) ?_
     intro wq hBq hgq hsq;have HBQ := Hd hBq
     have HPQ := Hd (HP2.out.own HO2.out.2 (by omega) (Chg.of_grown hgq (fun k e => .inl (by injection e with e; exact e.symm))))
     clear hBq hgq hsq)
  | fail)
 have hov : zaM (rgC zan) 0 (rgC rl) = rgC rl := by
  unfold zaM;rw [zt6,List.nil_append,ztO,ztV (by rw [HLR.out]; simp [rgC,zan]),ztE]
 have hx8 := HBQ.out;rw [hov] at hx8;have hrl := zaC (P := prog) wq ⟨w.heap.size + 1,0,none⟩ 57 (rgC rl) _ (zak hx8) underlying57 rfl (by rw [HLR.out]; exact zee);refine bodyPost_ret (v := .tuple #[.agg (rgC rl).toArray,.int .i64 re]) ?_ rfl ⟨rfl,_,HPQ.out⟩;simp [results,results16,Act.put,asAddr,Result.andThen,hrl]
end
end
section
def iteV (a b c : Int) : Int := if a = 0 then c else b
section
variable {vs : List Int}(hU : ∀ v ∈ vs,U64 v)
include hU
def valD (vs : List Int)(p : PS)(n : Int) : Int := (evP p.T vs n).getD 0
end
end
section
section
variable {base g b : Nat}{F G F1 G1 : Nat → Prop}{m m1 : SM}{ex : ExD}{w w1 : World}
theorem DA.frozen (h : DA base g b F G m ex w)(i : Nat) : w.frozen? ⟨b,i,none⟩ = false := by
 obtain ⟨es,q,h1,_⟩ := h.box;exact h1.frozen i
theorem zcA (h : DA base g b F G m ex w)(n er : Int)(hn : I64 n) : Calls prog 83 #[.pointer (some ⟨b,0,none⟩),.int .i64 n,.int .i64 er] w (zso base g b G ex w (⟨m.p,m.regs,m.evs,if m.err = 0 then er else m.err⟩,n)) := by
 have c17 := h.cerr;have f17 := h.frozen 17;have HM := Hd h
 have HI := Hd hn
 clear h hn;obtain ⟨e2,he2⟩ : ∃ e2,(if m.err = 0 then er else m.err) = e2 := ⟨_,rfl⟩;rw [he2];have HE := Hd he2
 clear he2
 cases he : (m.err == 0)
 ·have hE : e2 = m.err := by rw [← HE.out,if_neg (by simpa using he)]
  have HE2 := Hd hE
  clear hE;go_enter func83,ntmps83;go_wp2;go_ret;exact ⟨rfl,HI.out,F,G,by rw [HE2.out]; exact DG.refl HM.out⟩
 ·have hE : e2 = er := by rw [← HE.out,if_pos (by simpa using he)]
  have HE2 := Hd hE
  clear hE;go_enter func83,ntmps83;go_wp2;go_ret;exact ⟨rfl,HI.out,F,G,by rw [HE2.out]; exact HM.out.setErr er⟩
theorem zet (h : DA base g b F G m ex w)(n : Int)(hn : I64 n) : Calls prog 90 #[.pointer (some ⟨b,0,none⟩),.int .i64 n] w (zso base g b G ex w (m.num n)) := by
 have c0 := h.cp;have HM := Hd h
 have hb0 := Hd (zto (h.low b h.nb.2).1 (ztu h.lt))
 clear h;go_enter func90,ntmps90;go_wp2_with fail
 refine (zbZ (IntKind.u64.wrap n) (wrap_u64 _) _ HM.out.pool hb0.out).mono ?_;rintro e w1 ⟨rfl,F1,hp1⟩;have HM1 := Hd (HM.out.pg hp1)
 clear hp1 c0;go_wp2_with fail
 refine (zcA HM1.out.at_ _ _ (zaY HM.out.pool.wf _)).mono ?_;rintro e w2 ⟨rfl,_,F2,G2,hm2⟩;have HM2 := Hd (HM1.out.trans hm2)
 clear hm2;go_wp2;go_ret;exact ⟨rfl,zaY HM.out.pool.wf _,F2,G2,HM2.out⟩
end
end
section
theorem zpz (rec : PS → Int → Int → Int → Option RS)(f : Nat)(p : PS)(op x a b : Int) : opL rec f p op x a b = 
  (if ((atP p.T a).kind == 0 && (atP p.T b).kind == 0) = true then some (putR p (zaf (doU op x (atP p.T a).n (atP p.T b).n)))
 else if op = 8 then zbA (putR p (zaf 0)) fun q z => rec q 1 z a
 else if op = 11 then zbw f p x b
 else if (op == 1 && (atP p.T b).kind == 0) = true then zbA (putR p (zaf (zao x (IntKind.u64.wrap (-(atP p.T b).n))))) fun q z => rec q 0 a z
 else if (zaK op && ((atP p.T a).kind == 0 || (!((atP p.T b).kind == 0) && decide (b < a)))) = true then rec p op b a
 else if zb5 p.T (atP p.T a) op x ((atP p.T b).kind == 0) = true then zbA (putR p (zaf (zao x (IntKind.u64.wrap ((atP p.T (atP p.T a).b).n + (atP p.T b).n))))) fun q z => rec q 0 (atP p.T a).a z
 else if ((atP p.T b).kind == 0 && zaB op x (atP p.T b).n) = true then zbw f p x a
 else if ((atP p.T b).kind == 0 && ziu op (atP p.T b).n) = true then some (putR p (zaf 0))
 else if (a == b && (op == 1 || op == 10)) = true then some (putR p (zaf 0))
 else if (a == b && (op == 5 || op == 4)) = true then zbw f p x a
 else some (putR p ⟨2,op,x,0,a,b,0⟩)) := rfl
def zeZ (f : Nat)(p : PS)(op x a b : Int) : Option RS :=
 if (a == b && (op == 1 || op == 10)) = true then some (putR p (zaf 0))
 else if (a == b && (op == 5 || op == 4)) = true then zbw f p x a
 else some (putR p ⟨2,op,x,0,a,b,0⟩)
theorem zmn {f : Nat}{p : PS}{op x a b : Int}{r : RS}(k0 : ((atP p.T a).kind == 0) = false)(kb : ((atP p.T b).kind == 0) = true)(h8 : op ≠ 8)(h11 : op ≠ 11)(h1 : op ≠ 1)
  (h : opL (fun q o u v => opF f q o x u v) f p op x a b = some r) : ∃ q,byF f p op x a (atP p.T a) (atP p.T b).n = some q ∧ (∀ s,q = some s → s = r) ∧ (q = none → zeZ f p op x a b = some r) := by
 rw [zpz,k0,kb,ztS,if_neg (by simp),if_neg h8,if_neg h11,if_neg (by simp [h1]),if_neg (by simp)] at h;simp only [ztG] at h;unfold byF
 split at h
 ·rename_i hA
  rw [if_pos hA,h];exact ⟨some r,rfl,(fun s e => by injection e with e; exact e.symm),(fun e => by cases e)⟩
 rename_i hA;rw [if_neg hA]
 split at h
 ·rename_i hS
  rw [if_pos hS,h];exact ⟨some r,rfl,(fun s e => by injection e with e; exact e.symm),(fun e => by cases e)⟩
 rename_i hS;rw [if_neg hS]
 split at h
 ·rename_i hN
  rw [if_pos hN];injection h with h
  exact ⟨_,rfl,(fun s e => by injection e with e; rw [← e]; exact h),(fun e => by cases e)⟩
 rename_i hN;rw [if_neg hN];exact ⟨none,rfl,(fun s e => by cases e),(fun _ => h)⟩
section
variable {base g f : Nat}
theorem zmo (op x a b : Int)(F : Nat → Prop)(p : PS)(w : World)(h : zaO w base F g p)(hbad : (zal p.T a && zal p.T b) = false ∨ zdp op x = false) :
  Calls prog 84 #[.pointer (some ⟨g,0,none⟩),.int .i8 op,.int .i8 x,.int .i64 a,.int .i64 b] w (zc7 base g F w (p,0,2)) := by
 have HP := Hd (RG.refl h)
 have HB := Hd hbad
 clear h hbad;go_enter func84,ntmps84
 cases hd : zdp op x
 ·have HD := Hd hd
  clear hd;go_wp2_with fail
  refine (zrC 0 0 _ HD.out).mono ?_;rintro e w1 ⟨rfl,rfl⟩;go_wp2;go_ret2;exact zc7.same HP.out
 ·have HD := Hd hd
  have hh : (zal p.T a && zal p.T b) = false := HB.out.resolve_right (by rw [hd]; simp);have HH := Hd hh
  clear hd hh;go_wp2_with fail
  refine (zho 0 0 zaA zaA _ HD.out).mono ?_;rintro e w1 ⟨rfl,rfl⟩;generalize doU op x 0 0 = v00;go_wp2_with fail
  have hb0 : Below w.heap.size w (w.alloc (.cells #[.int .i64 a,.int .i64 b] 3)) := zav w _;refine (zcV [a,b] _ 2 2 _ (HP.out.pool.below hb0) (zbB w 3 [.int .i64 a,.int .i64 b] 2 rfl) rfl (ztn _) (by omega)).mono ?_;rintro e w2 ⟨rfl,hb⟩;have HP1 := Hd ((HP.out.step hb0).step hb)
  rw [show [a,b].all (zal p.T) = false by simpa using HH.out];clear hb hb0;go_wp2;go_ret2;exact zc7.same HP1.out
structure RO (base g : Nat)(F : Nat → Prop)(w : World)(F' : Nat → Prop)(p : PS)(s y : TD)(bs by_ : Nat)(W : World) : Prop where
 pg : RG base g F w F' p W
 one : Blk W bs 147 s.cells.toArray
 two : Blk W by_ 147 y.cells.toArray
 ns : ¬ F' bs
 ny : ¬ F' by_
section
variable {F F1 F2 : Nat → Prop}{p p1 : PS}{s y : TD}{bs by_ : Nat}{w W V : World}
theorem RO.trans (h : RO base g F w F1 p s y bs by_ W)(k : RG base g F1 W F2 p1 V) : RO base g F w F2 p1 s y bs by_ V :=
 ⟨h.pg.trans k,(k.blk h.one h.ns).1,(k.blk h.two h.ny).1,(k.blk h.one h.ns).2,(k.blk h.two h.ny).2⟩
end
theorem zox (hIH : zsu base g f)(op x a0 b0 : Int)(F : Nat → Prop)(p : PS)(r : RS)(w : World)(h : zaO w base F g p)(hbase : base ≤ w.heap.size)(hD : zdp op x = true)(hH : (zal p.T a0 && zal p.T b0) = true)
  (hO : (if (zaj p x a0 b0).2.2.2 = 0 then opL (fun q o u v => opF f q o x u v) f (zaj p x a0 b0).1 op x (zaj p x a0 b0).2.1 (zaj p x a0 b0).2.2.1 else some ((zaj p x a0 b0).1,0,(zaj p x a0 b0).2.2.2)) = some r) :
  Calls prog 84 #[.pointer (some ⟨g,0,none⟩),.int .i8 op,.int .i8 x,.int .i64 a0,.int .i64 b0] w (zc7 base g F w r) := by
 have hhab : zal p.T a0 = true ∧ zal p.T b0 = true := by simpa using hH
 obtain ⟨p1,a,e1,hop1⟩ : ∃ p1 a e1,zah p x a0 = (p1,a,e1) := ⟨_,_,_,rfl⟩;obtain ⟨p2,b,e2,hop2⟩ : ∃ p2 b e2,zah p1 x b0 = (p2,b,e2) := ⟨_,_,_,rfl⟩;have hbp : zaj p x a0 b0 = (if e1 = 0 then (p2,a,b,e2) else (p1,a,0,e1)) := by
  unfold zaj;rw [hop1];dsimp only;rw [hop2]
 have hO' : (if e1 = 0 then (if e2 = 0 then opL (fun q o u v => opF f q o x u v) f p2 op x a b else some (p2,0,e2)) else some (p1,0,e1)) = some r := by
  by_cases h1 : e1 = 0
  ·rw [if_pos h1] at hbp ⊢
   rw [hbp] at hO;exact hO
  ·rw [if_neg h1] at hbp ⊢
   rw [hbp] at hO;dsimp only at hO;rw [if_neg h1] at hO;exact hO
 clear hbp;have HFA := Hd (fun (k1 : e1 = 0) (k2 : e2 = 0) => by
  have e : zaj p x a0 b0 = (p2,a,b,e2) := by
   unfold zaj;rw [hop1];dsimp only;rw [hop2,if_pos k1]
  have hbf := zbb h.wf h.rng hhab.1 hhab.2 (x := x) (by rw [e]; exact k2);rw [e] at hbf;exact ⟨hbf.1,hbf.2.1⟩ : ∀ (k1 : e1 = 0) (k2 : e2 = 0),zal p2.T a = true ∧ zal p2.T b = true)
 have HOP1 := Hd hop1
 have HOP2 := Hd hop2
 have HO1 := Hd hO'
 have HIH := Hd hIH
 have HDO := Hd hD
 have HHA := Hd hH
 have HXW := Hd (zbE hD).1
 have HRO_ := Hd (zbE hD).2
 have HP := Hd (RG.refl h)
 clear hop1 hop2 hO hO' hIH hD hH h hhab;go_enter func84,ntmps84;go_wp2_with fail
 refine (zho 0 0 zaA zaA _ HDO.out).mono ?_;rintro e w1 ⟨rfl,rfl⟩;generalize doU op x 0 0 = v00;go_wp2_with fail
 have hb0 : Below w.heap.size w (w.alloc (.cells #[.int .i64 a0,.int .i64 b0] 3)) := zav w _;refine (zcV [a0,b0] _ 2 2 _ (HP.out.pool.below hb0) (zbB w 3 [.int .i64 a0,.int .i64 b0] 2 rfl) rfl (ztn _) (by omega)).mono ?_;rintro e w2 ⟨rfl,hb⟩;have HP1 := Hd ((HP.out.step hb0).step hb)
 rw [show [a0,b0].all (zal p.T) = true by simpa using HHA.out];clear hb hb0 HP;have hbs1 : base ≤ w2.heap.size := zto hbase HP1.out.size;go_wp2_with fail
 refine (zen x a0 HXW.out _ HP1.out.pool hbs1).mono ?_;rintro e w3 ⟨rfl,F1,hp⟩;rw [HOP1.out] at hp ⊢;have HP2 := Hd (HP1.out.trans hp)
 clear hp HP1;dsimp only at HP2 ⊢
 cases h1 : (e1 == 0)
 ·have hr := HO1.out
  rw [if_neg (by simpa using h1)] at hr;injection hr with hr
  subst hr;go_wp2;go_ret2;exact zc7.same HP2.out
 have hr := HO1.out;rw [if_pos (by simpa using h1)] at hr;have HO2 := Hd hr
 have HE1 := Hd (by simpa using h1 : e1 = 0)
 clear hr HO1;have hbs2 : base ≤ w3.heap.size := zto hbase HP2.out.size;go_wp2_with fail
 refine (zen x b0 HXW.out _ HP2.out.pool hbs2).mono ?_;rintro e w4 ⟨rfl,F2,hp⟩;rw [HOP2.out] at hp ⊢;have HP3 := Hd (HP2.out.trans hp)
 clear hp HP2;dsimp only at HP3 ⊢
 cases h2 : (e2 == 0)
 ·have hr := HO2.out
  rw [if_neg (by simpa using h2)] at hr;injection hr with hr
  subst hr;go_wp2;go_ret2;exact zc7.same HP3.out
 have hr := HO2.out;rw [if_pos (by simpa using h2)] at hr;have HO3 := Hd hr
 have HF := Hd (HFA.out HE1.out (by simpa using h2))
 clear hr HO2 HFA;obtain ⟨s,hs⟩ : ∃ s,atP p2.T a = s := ⟨_,rfl⟩;obtain ⟨y,hy⟩ : ∃ y,atP p2.T b = y := ⟨_,rfl⟩;have HS := Hd hs
 have HY := Hd hy
 clear hs hy;go_wp2_with fail
 refine (zia a _ HP3.out.pool).mono ?_;rintro e w5 ⟨rfl,hb⟩;have HP4 := Hd (HP3.out.step hb)
 clear hb HP3;rw [HS.out];go_wp2_with fail
 refine (zia b _ HP4.out.pool).mono ?_;rintro e w6 ⟨rfl,hb⟩;have HP5 := Hd (HP4.out.step hb)
 clear hb HP4;rw [HY.out];have NF := Hd (fun k (hk : w6.heap.size ≤ k) q => by have := (HP5.out.pool.fb k q).2; omega : ∀ k,w6.heap.size ≤ k → ¬ F2 k)
 have hal1 := zav w6 (.cells zbi.cells.toArray 147);have hal2 := zav (w6.alloc (.cells zbi.cells.toArray 147)) (.cells zbi.cells.toArray 147);have HA1 := Hd ((Blk.new w6 147 zbi.cells.toArray).below hal2 (by simp))
 have hA2 := Blk.new (w6.alloc (.cells zbi.cells.toArray 147)) 147 zbi.cells.toArray;simp only [World.size_alloc] at hA2;have HA2 := Hd hA2
 have HL := Hd (hal1.trans (hal2.mono hal1.size))
 clear hal1 hal2 hA2;have hov : ∀ t : TD,zaM zbi.cells 0 t.cells = t.cells := fun t => by unfold zaM; simp [TD.cells]
 have HOV := Hd hov
 clear hov;obtain ⟨bs,hbs⟩ : ∃ b,w6.heap.size = b := ⟨_,rfl⟩;have HBS := Hd hbs
 rw [hbs] at HA1 HA2;have tok1 := True.intro;have tok2 := True.intro;go_upto_region 11 with (first
  | (clear tok1
     refine zaa rfl 147 (.tmp 15) (.tmp 64) rfl bs 0 147 zbi.cells s.cells (zaw s) HA1.out (by rw [← HBS.out]; rfl) (by rfl) rfl zcL (by simp [TD.cells]) (TD.one _) ?_;intro w7 G7 L7 Z7;have HB1 := Hd (by have := G7; rw [HOV.out] at this; exact this : Blk w7 bs 147 s.cells.toArray)
     have HB2 := Hd (HA2.out.grown L7 (fun e => by injection e with e; omega))
     have HL2 := Hd (HL.out.grown L7 HL.out.size (fun q e => by injection e with e; have := HBS.out; omega))
     clear G7 L7 Z7)
  | (clear tok2
     refine zaa rfl 147 (.tmp 16) (.tmp 67) rfl (bs + 1) 0 147 zbi.cells y.cells (zaw y) HB2.out (by rw [← HBS.out]; rfl) (by rfl) rfl zcL (by simp [TD.cells]) (TD.one _) ?_;intro w8 G8 L8 Z8;have HC1 := Hd (HB1.out.grown L8 (fun e => by injection e with e; omega))
     have HC2 := Hd (by have := G8; rw [HOV.out] at this; exact this : Blk w8 (bs + 1) 147 y.cells.toArray)
     have HL3 := Hd (HL2.out.grown L8 HL2.out.size (fun q e => by injection e with e; have := HBS.out; omega))
     clear G8 L8 Z8)
  | fail)
 have HRO : Hid (RO base g F w F2 p2 s y bs (bs + 1) w8) := Hd ⟨HP5.out.step HL3.out,HC1.out,HC2.out,NF.out _ (by rw [HBS.out]; exact ztn _),NF.out _ (by rw [HBS.out]; omega)⟩
 clear HA1 HA2 HL HOV HB1 HB2 HL2 HC1 HC2 HL3 NF HP5;obtain ⟨by_,hby⟩ : ∃ b,bs + 1 = b := ⟨_,rfl⟩;rw [hby] at HRO;try simp only [HBS.out,hby]
 have s0 := HRO.out.one.cell 0;have y0 := HRO.out.two.cell 0;simp [TD.cells] at s0 y0;have hr := HO3.out;rw [zpz,HS.out,HY.out] at hr;have HO4 := Hd hr
 clear hr;obtain ⟨lf,hlf⟩ : ∃ v,(s.kind == 0) = v := ⟨_,rfl⟩;obtain ⟨rt,hrt⟩ : ∃ v,(y.kind == 0) = v := ⟨_,rfl⟩;have HLF := Hd hlf
 have HRT := Hd hrt
 rw [hlf,hrt] at HO4;try simp only [pt,pn,sL]
 go_cut [75] from 68 to 75 (fun v wc => v = .bool (lf && rt) ∧ wc = w8)
 case first =>
  as_aux_lemma =>
   cases lf
   ·go_wp2
    go_meet
    case rel => exact ⟨rfl,rfl⟩
   ·cases rt
    all_goals
     go_wp2;go_meet
     case rel => exact ⟨rfl,rfl⟩
 case rest =>
  obtain ⟨rfl,rfl⟩ := hcut;clear hlf hrt;obtain ⟨bt,hbt⟩ : ∃ v,(lf && rt) = v := ⟨_,rfl⟩;have HBT := Hd hbt
  rw [hbt];rw [hbt] at HO4;clear hbt s0 y0
  cases bt;rotate_left
  ·have hr := HO4.out
   rw [if_pos rfl] at hr;injection hr with hr
   have HE := Hd hr
   have HSN := Hd (show U64 s.n from HS.out ▸ (zba HRO.out.pg.pool.rng a).2.2.2.1)
   have HYN := Hd (show U64 y.n from HY.out ▸ (zba HRO.out.pg.pool.rng b).2.2.2.1)
   clear hr;have s3 := HRO.out.one.cell 3;have y3 := HRO.out.two.cell 3;simp [TD.cells] at s3 y3;go_wp2_with fail
   refine (zho s.n y.n HSN.out HYN.out _ HDO.out).mono ?_;rintro e w7 ⟨rfl,rfl⟩;have HDU := Hd (zhe HDO.out HSN.out HYN.out)
   obtain ⟨v,hv⟩ : ∃ v,doU op x s.n y.n = v := ⟨_,rfl⟩;rw [hv] at HE HDU ⊢;clear hv;go_wp2_with fail
   refine (zbZ v HDU.out _ HRO.out.pg.pool (zto hbase HRO.out.pg.size)).mono ?_;rintro e w9 ⟨rfl,F3,hp⟩;have HPE := Hd (HRO.out.pg.trans hp)
   clear hp;go_wp2;go_ret2;rw [← HE.out];exact ⟨rfl,F3,HPE.out⟩
  have hr := HO4.out;rw [if_neg (by simp)] at hr;have HO5 := Hd hr
  clear hr HO4
  cases h8 : (op == 8);rotate_left
  ·have hr := HO5.out
   rw [if_pos (by simpa using h8)] at hr;have HR1 := Hd hr
   clear hr HO5;go_wp2_with fail
   refine (zbZ _ (zaA) _ HRO.out.pg.pool (zto hbase HRO.out.pg.size)).mono ?_;rintro e w7 ⟨rfl,F3,hp⟩;obtain ⟨q,hq⟩ : ∃ q,putR p2 (zaf (0)) = q := ⟨_,rfl⟩;rw [hq] at hp HR1 ⊢;have HRO2 := Hd (HRO.out.trans hp)
   obtain ⟨p3,n3,e3⟩ := q;clear hp hq HRO;have HRO := HRO2;clear HRO2;dsimp only at HR1 HRO ⊢;have HR2 : Hid ((if e3 = 0 then opF f p3 1 x n3 a else some (p3,0,e3)) = some r) := Hd (by have := HR1.out; unfold zbA at this; exact this)
   cases he3 : (e3 == 0)
   ·have hr := HR2.out
    rw [if_neg (by simpa using he3)] at hr;injection hr with hr
    subst hr;go_wp2;go_ret2;exact zc7.same HRO.out.pg
   ·have hr := HR2.out
    rw [if_pos (by simpa using he3)] at hr;have HR3 := Hd hr
    clear hr;go_wp2_with fail
    refine (HIH.out 1 x n3 a _ p3 r HR3.out _ HRO.out.pg.pool (zto hbase HRO.out.pg.size)).mono ?_;rintro e w7 ⟨rfl,F3,hp⟩;have HPE := Hd (HRO.out.pg.trans hp)
    clear hp;go_wp2;go_ret2;exact ⟨rfl,F3,HPE.out⟩
  cases h11 : (op == 11);rotate_left
  ·have hr := HO5.out
   rw [if_neg (by simpa using h8),if_pos (by simpa using h11)] at hr;have HR1 := Hd hr
   clear hr HO5;go_wp2_with fail
   refine (zb8 x (by have := HXW.out; unfold wdB; simp; omega) f b HF.out.2 _ r HR1.out _ HRO.out.pg.pool (zto hbase HRO.out.pg.size)).mono ?_;rintro e w7 ⟨rfl,F3,hp⟩;have HPE := Hd (HRO.out.pg.trans hp)
   clear hp;go_wp2;go_ret2;exact ⟨rfl,F3,HPE.out⟩
  have hr := HO5.out;rw [if_neg (by simpa using h8),if_neg (by simpa using h11)] at hr;have HO6 := Hd hr
  clear hr HO5;have y0 := HRO.out.two.cell 0;simp [TD.cells] at y0
  cases rt
  ·-- no constant on the right
   have kY := HRT.out;have kY' : (y.kind != 0) = true := by unfold bne; rw [kY]; rfl
   have hr := HO6.out;rw [if_neg (by simp)] at hr;have HO7 := Hd hr
   clear hr HO6;go_upto_region 21 with fail
   go_cut [122] from 116 to 122 (fun v wd => v = .bool false ∧ wd = wc)
   case first =>
    as_aux_lemma =>
     cases h1 : (op == 1)
     all_goals
      go_wp2;go_meet
      case rel => exact ⟨rfl,rfl⟩
   case rest =>
    obtain ⟨rfl,rfl⟩ := hcut;have s0 := HRO.out.one.cell 0;simp [TD.cells] at s0;go_upto_region 26 with fail
    go_cut [159] from 143 to 159 (fun v wd => v = .bool (zaK op && (lf || decide (b < a))) ∧ wd = wc)
    case first =>
     as_aux_lemma =>
      have kS := HLF.out;go_wp2_with fail
      refine (zgC op _).mono ?_;rintro e w6' ⟨rfl,rfl⟩
      cases htn : zaK op
      ·go_wp2
       go_meet
       case rel => exact ⟨by simp [htn],rfl⟩
      cases lf
      ·go_wp2
       go_meet
       case rel => exact ⟨by simp [htn],rfl⟩
      ·go_wp2
       go_meet
       case rel => exact ⟨by simp [htn],rfl⟩
    case rest =>
     obtain ⟨rfl,rfl⟩ := hcut;obtain ⟨sw,hsw⟩ : ∃ v,(zaK op && (lf || decide (b < a))) = v := ⟨_,rfl⟩;rw [hsw];have hr := HO7.out;rw [show (zaK op && (lf || (!false && decide (b < a)))) = sw by rw [← hsw]; simp] at hr;have HO8 := Hd hr
     clear hr HO7 hsw
     cases sw;rotate_left
     ·have hr := HO8.out
      rw [if_pos rfl] at hr;have HR1 := Hd hr
      clear hr;go_wp2_with fail
      refine (HIH.out op x b a _ p2 r HR1.out _ HRO.out.pg.pool (zto hbase HRO.out.pg.size)).mono ?_;rintro e w7 ⟨rfl,F3,hp⟩;have HPE := Hd (HRO.out.pg.trans hp)
      clear hp;go_wp2;go_ret2;exact ⟨rfl,F3,HPE.out⟩
     have HTL : Hid (zeZ f p2 op x a b = some r) := Hd (by
      have hr := HO8.out;rw [if_neg (by simp),if_neg (by unfold zb5; simp),ztS,ztS,if_neg (by simp),if_neg (by simp)] at hr;exact hr)
     clear HO8 s0;have HTW := Hd (zm1 (op := op) (x := x) (by have := HRO_.out; unfold I8; omega) (by have := HXW.out; unfold I8; omega) (zap HRO.out.pg.pool.wf HF.out.1) (zap HRO.out.pg.pool.wf HF.out.2))
     have qbo := fun w => zhw op x a b w
     cases hab : (a == b)
     ·go_wp2_with fail
      have hr : some (putR p2 (opT op x a b)) = some r := by have h := HTL.out; unfold zeZ at h; simp only [hab,ztG,ztS,ztZ,zt0,ztX,zt1,zt2,ztT,ztY,if_true,if_false,ztL] at h; exact h
      injection hr with hr
      have HE := Hd hr
      clear hr;refine (zda _ HTW.out _ HRO.out.pg.pool (zto hbase HRO.out.pg.size)).mono ?_;rintro e w7 ⟨rfl,F3,hp⟩;have HPE := Hd (HRO.out.pg.trans hp)
      clear hp;go_wp2;go_ret2;rw [← HE.out];exact ⟨rfl,F3,HPE.out⟩
     cases t1 : (op == 1);rotate_left
     ·have hr : some (putR p2 (zaf 0)) = some r := by have h := HTL.out; unfold zeZ at h; simp only [hab,t1,ztG,ztS,ztZ,zt0,ztX,zt1,zt2,ztT,ztY,if_true,if_false,ztL] at h; exact h
      injection hr with hr
      have HE := Hd hr
      clear hr;go_wp2_with fail
      refine (zbZ 0 zaA _ HRO.out.pg.pool (zto hbase HRO.out.pg.size)).mono ?_;rintro e w7 ⟨rfl,F3,hp⟩;have HPE := Hd (HRO.out.pg.trans hp)
      clear hp;go_wp2;go_ret2;rw [← HE.out];exact ⟨rfl,F3,HPE.out⟩
     cases t10 : (op == 10);rotate_left
     ·have hr : some (putR p2 (zaf 0)) = some r := by have h := HTL.out; unfold zeZ at h; simp only [hab,t1,t10,ztG,ztS,ztZ,zt0,ztX,zt1,zt2,ztT,ztY,if_true,if_false,ztL] at h; exact h
      injection hr with hr
      have HE := Hd hr
      clear hr;go_wp2_with fail
      refine (zbZ 0 zaA _ HRO.out.pg.pool (zto hbase HRO.out.pg.size)).mono ?_;rintro e w7 ⟨rfl,F3,hp⟩;have HPE := Hd (HRO.out.pg.trans hp)
      clear hp;go_wp2;go_ret2;rw [← HE.out];exact ⟨rfl,F3,HPE.out⟩
     cases t5 : (op == 5);rotate_left
     ·have hr : zbw f p2 x a = some r := by have h := HTL.out; unfold zeZ at h; simp only [hab,t1,t10,t5,ztG,ztS,ztZ,zt0,ztX,zt1,zt2,ztT,ztY,if_true,if_false,ztL] at h; exact h
      have HE := Hd hr
      clear hr;go_wp2_with fail
      refine (zb8 x (by have := HXW.out; unfold wdB; simp; omega) f a HF.out.1 _ r HE.out _ HRO.out.pg.pool (zto hbase HRO.out.pg.size)).mono ?_;rintro e w7 ⟨rfl,F3,hp⟩;have HPE := Hd (HRO.out.pg.trans hp)
      clear hp;go_wp2;go_ret2;exact ⟨rfl,F3,HPE.out⟩
     cases t4 : (op == 4);rotate_left
     ·have hr : zbw f p2 x a = some r := by have h := HTL.out; unfold zeZ at h; simp only [hab,t1,t10,t5,t4,ztG,ztS,ztZ,zt0,ztX,zt1,zt2,ztT,ztY,if_true,if_false,ztL] at h; exact h
      have HE := Hd hr
      clear hr;go_wp2_with fail
      refine (zb8 x (by have := HXW.out; unfold wdB; simp; omega) f a HF.out.1 _ r HE.out _ HRO.out.pg.pool (zto hbase HRO.out.pg.size)).mono ?_;rintro e w7 ⟨rfl,F3,hp⟩;have HPE := Hd (HRO.out.pg.trans hp)
      clear hp;go_wp2;go_ret2;exact ⟨rfl,F3,HPE.out⟩
     ·go_wp2_with fail
      have hr : some (putR p2 (opT op x a b)) = some r := by have h := HTL.out; unfold zeZ at h; simp only [hab,t1,t10,t5,t4,ztG,ztS,ztZ,zt0,ztX,zt1,zt2,ztT,ztY,if_true,if_false,ztL] at h; exact h
      injection hr with hr
      have HE := Hd hr
      clear hr;refine (zda _ HTW.out _ HRO.out.pg.pool (zto hbase HRO.out.pg.size)).mono ?_;rintro e w7 ⟨rfl,F3,hp⟩;have HPE := Hd (HRO.out.pg.trans hp)
      clear hp;go_wp2;go_ret2;rw [← HE.out];exact ⟨rfl,F3,HPE.out⟩
  ·have hlf : lf = false := by have := HBT.out; simpa using this
   subst hlf;have kS := HLF.out;have kY := HRT.out;have kY' : (y.kind != 0) = false := by unfold bne; rw [kY]; rfl
   have s0 := HRO.out.one.cell 0;simp [TD.cells] at s0
   cases h1 : (op == 1);rotate_left
   ·have hr := HO6.out
    rw [if_pos (by rw [h1]; rfl)] at hr;have HR1 := Hd hr
    have HYN := Hd (zfQ (-y.n))
    have y3 := HRO.out.two.cell 3;simp [TD.cells] at y3;clear hr HO6;go_wp2_with fail
    try rw [show (0 : Int) - y.n = -y.n by omega]
    refine (zaH _ _ HYN.out _).mono ?_;rintro e w6' ⟨rfl,rfl⟩;go_wp2_with fail
    refine (zbZ _ (zau HYN.out) _ HRO.out.pg.pool (zto hbase HRO.out.pg.size)).mono ?_;rintro e w7 ⟨rfl,F3,hp⟩;obtain ⟨q,hq⟩ : ∃ q,putR p2 (zaf (zao x (IntKind.u64.wrap (-y.n)))) = q := ⟨_,rfl⟩;rw [hq] at hp HR1 ⊢;have HRO2 := Hd (HRO.out.trans hp)
    obtain ⟨p3,n3,e3⟩ := q;clear hp hq HRO;have HRO := HRO2;clear HRO2;dsimp only at HR1 HRO ⊢;have HR2 : Hid ((if e3 = 0 then opF f p3 0 x a n3 else some (p3,0,e3)) = some r) := Hd (by have := HR1.out; unfold zbA at this; exact this)
    cases he3 : (e3 == 0)
    ·have hr := HR2.out
     rw [if_neg (by simpa using he3)] at hr;injection hr with hr
     subst hr;go_wp2;go_ret2;exact zc7.same HRO.out.pg
    ·have hr := HR2.out
     rw [if_pos (by simpa using he3)] at hr;have HR3 := Hd hr
     clear hr;go_wp2_with fail
     refine (HIH.out 0 x a n3 _ p3 r HR3.out _ HRO.out.pg.pool (zto hbase HRO.out.pg.size)).mono ?_;rintro e w7 ⟨rfl,F3,hp⟩;have HPE := Hd (HRO.out.pg.trans hp)
     clear hp;go_wp2;go_ret2;exact ⟨rfl,F3,HPE.out⟩
   have hr := HO6.out;rw [if_neg (by rw [h1]; simp)] at hr;have HO7 := Hd hr
   clear hr HO6;go_upto_region 26 with fail
   go_cut [159] from 143 to 159 (fun v wd => v = .bool false ∧ wd = wc)
   case first =>
    as_aux_lemma =>
     go_wp2_with fail
     refine (zgC op _).mono ?_;rintro e w6' ⟨rfl,rfl⟩
     cases zaK op
     all_goals
      go_wp2;go_meet
      case rel => exact ⟨rfl,rfl⟩
   case rest =>
    obtain ⟨rfl,rfl⟩ := hcut;have y3 := HRO.out.two.cell 3;simp [TD.cells] at y3;have HQX := Hd (zmn (f := f) (p := p2) (op := op) (x := x) (a := a) (b := b) (r := r) (by rw [HS.out]; exact kS) (by rw [HY.out]; exact kY) (by simpa using h8) (by simpa using h11) (by simpa using h1) HO3.out)
    obtain ⟨q,hq⟩ := HQX.out;rw [HS.out,HY.out] at hq;have HQ1 := Hd hq.1
    have HQ2 := Hd hq.2.1
    have HQ3 := Hd hq.2.2
    have HYN := Hd (show U64 y.n from HY.out ▸ (zba HRO.out.pg.pool.rng b).2.2.2.1)
    have HSW := Hd (show s.wf from HS.out ▸ zba HRO.out.pg.pool.rng a)
    clear hq HQX HO7;have tok1 := True.intro;go_wp2_with (first
     | (clear tok1
        refine zae rfl 147 (.tmp 15) rfl ⟨bs,0,none⟩ (by rfl) s.cells _ (zak HRO.out.one) underlying147 rfl zcL ?_)
     | fail)
    refine (by_r HIH.out op x a s y.n HYN.out HSW.out HRO_.out HXW.out _ p2 q _ HRO.out.pg.pool (zto hbase HRO.out.pg.size) HF.out.1 HQ1.out).mono ?_;rintro e w9 hret
    cases q with
    | some r1 =>
     obtain ⟨rfl,F3,hp⟩ := hret;have hrr := HQ2.out r1 rfl;subst hrr;have HPE := Hd (HRO.out.pg.trans hp)
     clear hp;obtain ⟨p4,n4,e4⟩ := r1;dsimp only at HPE ⊢;go_wp2;go_ret2;exact ⟨rfl,F3,HPE.out⟩
    | none =>
     obtain ⟨rfl,F3,hp⟩ := hret;have HRO2 := Hd (HRO.out.trans hp)
     have HTL := Hd (HQ3.out rfl)
     clear hp HRO s0 y0 y3 HQ1 HQ2 HQ3;have HRO := HRO2;clear HRO2;have HTW := Hd (zm1 (op := op) (x := x) (by have := HRO_.out; unfold I8; omega) (by have := HXW.out; unfold I8; omega) (zap HRO.out.pg.pool.wf HF.out.1) (zap HRO.out.pg.pool.wf HF.out.2))
     have qbo := fun w => zhw op x a b w
     cases hab : (a == b)
     ·go_wp2_with fail
      have hr : some (putR p2 (opT op x a b)) = some r := by have h := HTL.out; unfold zeZ at h; simp only [hab,ztG,ztS,ztZ,zt0,ztX,zt1,zt2,ztT,ztY,if_true,if_false,ztL] at h; exact h
      injection hr with hr
      have HE := Hd hr
      clear hr;refine (zda _ HTW.out _ HRO.out.pg.pool (zto hbase HRO.out.pg.size)).mono ?_;rintro e w7 ⟨rfl,F3,hp⟩;have HPE := Hd (HRO.out.pg.trans hp)
      clear hp;go_wp2;go_ret2;rw [← HE.out];exact ⟨rfl,F3,HPE.out⟩
     have t1 := h1
     cases t10 : (op == 10);rotate_left
     ·have hr : some (putR p2 (zaf 0)) = some r := by have h := HTL.out; unfold zeZ at h; simp only [hab,t1,t10,ztG,ztS,ztZ,zt0,ztX,zt1,zt2,ztT,ztY,if_true,if_false,ztL] at h; exact h
      injection hr with hr
      have HE := Hd hr
      clear hr;go_wp2_with fail
      refine (zbZ 0 zaA _ HRO.out.pg.pool (zto hbase HRO.out.pg.size)).mono ?_;rintro e w7 ⟨rfl,F3,hp⟩;have HPE := Hd (HRO.out.pg.trans hp)
      clear hp;go_wp2;go_ret2;rw [← HE.out];exact ⟨rfl,F3,HPE.out⟩
     cases t5 : (op == 5);rotate_left
     ·have hr : zbw f p2 x a = some r := by have h := HTL.out; unfold zeZ at h; simp only [hab,t1,t10,t5,ztG,ztS,ztZ,zt0,ztX,zt1,zt2,ztT,ztY,if_true,if_false,ztL] at h; exact h
      have HE := Hd hr
      clear hr;go_wp2_with fail
      refine (zb8 x (by have := HXW.out; unfold wdB; simp; omega) f a HF.out.1 _ r HE.out _ HRO.out.pg.pool (zto hbase HRO.out.pg.size)).mono ?_;rintro e w7 ⟨rfl,F3,hp⟩;have HPE := Hd (HRO.out.pg.trans hp)
      clear hp;go_wp2;go_ret2;exact ⟨rfl,F3,HPE.out⟩
     cases t4 : (op == 4);rotate_left
     ·have hr : zbw f p2 x a = some r := by have h := HTL.out; unfold zeZ at h; simp only [hab,t1,t10,t5,t4,ztG,ztS,ztZ,zt0,ztX,zt1,zt2,ztT,ztY,if_true,if_false,ztL] at h; exact h
      have HE := Hd hr
      clear hr;go_wp2_with fail
      refine (zb8 x (by have := HXW.out; unfold wdB; simp; omega) f a HF.out.1 _ r HE.out _ HRO.out.pg.pool (zto hbase HRO.out.pg.size)).mono ?_;rintro e w7 ⟨rfl,F3,hp⟩;have HPE := Hd (HRO.out.pg.trans hp)
      clear hp;go_wp2;go_ret2;exact ⟨rfl,F3,HPE.out⟩
     ·go_wp2_with fail
      have hr : some (putR p2 (opT op x a b)) = some r := by have h := HTL.out; unfold zeZ at h; simp only [hab,t1,t10,t5,t4,ztG,ztS,ztZ,zt0,ztX,zt1,zt2,ztT,ztY,if_true,if_false,ztL] at h; exact h
      injection hr with hr
      have HE := Hd hr
      clear hr;refine (zda _ HTW.out _ HRO.out.pg.pool (zto hbase HRO.out.pg.size)).mono ?_;rintro e w7 ⟨rfl,F3,hp⟩;have HPE := Hd (HRO.out.pg.trans hp)
      clear hp;go_wp2;go_ret2;rw [← HE.out];exact ⟨rfl,F3,HPE.out⟩
theorem ziP : ∀ f,zsu base g f := by
 intro f
 induction f with
 | zero => intro op x a b F p r hO; cases hO
 | succ f ih =>
  intro op x a b F p r hO W h hbase;rw [zbu] at hO
  split at hO
  ·rename_i hb
   injection hO with hO
   rw [← hO];exact zmo op x a b F p W h (.inl hb)
  ·rename_i hb
   split at hO
   ·rename_i hd
    injection hO with hO
    rw [← hO];exact zmo op x a b F p W h (.inr hd)
   ·rename_i hd
    exact zox ih op x a b F p r W h hbase (by simpa using hd) (by simpa using hb) hO
end
end
end Go.Proofs.YtepagfkkjlbipaaGreat
