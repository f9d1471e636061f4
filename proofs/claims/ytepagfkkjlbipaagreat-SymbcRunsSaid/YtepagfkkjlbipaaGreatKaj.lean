/-
  Parts of the proof of SymbcRuns. Conditions: those written in each statement.
-/
import Derived.Test.YtepagfkkjlbipaaGreatPt
import Derived.Test.YtepagfkkjlbipaaGreatKaf
set_option linter.unusedVariables false
set_option linter.unusedSimpArgs false
set_option maxHeartbeats 64000000
set_option maxRecDepth 100000
namespace Go.Proofs.YtepagfkkjlbipaaGreat
open Go.RowKit
open Tryz
section
theorem zrF : (prog.info? 147).map (fun i => (i.zero,i.size,i.bytes)) = some (some (zaw zbi),7,40) := by kernel_rfl
theorem zot : (prog.info? 3).map (fun i => (i.zero,i.size,i.bytes)) = some (some (.int .i64 0),1,8) := by kernel_rfl
theorem zs5 : ∀ w : World,(zeroValue 30).run prog w = .ok (.int .i8 0) w := fun w => by kernel_rfl
theorem zpx : ∀ w : World,(zeroValue 3).run prog w = .ok (.int .i64 0) w := fun w => by kernel_rfl
def zes (p : PS)(t : TD)(ok : Bool)(d : Int)(k : Nat) : Prop := ok = (okF t && ((zax t).take k).all (zal p.T)) ∧ (ok = true → d = zd6 p.D ((zax t).take k))
theorem zes.zero (p : PS)(t : TD) : zes p t (okF t) 1 0 := ⟨by simp,fun _ => rfl⟩
theorem zes.no {p : PS}{t : TD}{d : Int}{k : Nat}(h : zes p t false d k) : zes p t false d (k + 1) := by
 refine ⟨?_,fun h => by cases h⟩;have := h.1;rw [eq_comm,zuj] at this ⊢
 rcases this with q | q
 ·exact .inl q
 ·right
  rw [List.all_eq_false] at q ⊢;obtain ⟨x,hx,hb⟩ := q;have hx2 : x ∈ ((zax t).take (k + 1)).take k := by rw [List.take_take,Nat.min_eq_left (by omega)]; exact hx
  exact ⟨x,zuk hx2,hb⟩
theorem zd4 {l : List Int}{k : Nat}{x : Int}(h : l[k]? = some x) : l.take (k + 1) = l.take k ++ [x] := by
 rw [ztF,h]
 rfl
theorem zes.bad {p : PS}{t : TD}{ok : Bool}{d d' x : Int}{k : Nat}(h : zes p t ok d k)(hx : (zax t)[k]? = some x)(hb : zal p.T x = false) : zes p t false d' (k + 1) := by
 refine ⟨?_,fun h => by cases h⟩;rw [zd4 hx,List.all_append,List.all_cons,hb];simp
theorem zes.good {p : PS}{t : TD}{d x y : Int}{k : Nat}(h : zes p t true d k)(hx : (zax t)[k]? = some x)(hb : zal p.T x = true)(hy : p.D[x.toNat]? = some y) : zes p t true (max d (y + 1)) (k + 1) := by
 refine ⟨?_,fun _ => ?_⟩
 ·have := h.1
  rw [zd4 hx,List.all_append,List.all_cons,hb,List.all_nil,ztT,ztT];exact this
 ·rw [zd4 hx]
  unfold zd6;rw [List.foldl_append,h.2 rfl];unfold zd6;rw [zua,List.foldl_nil,zts,hy]
  rfl
def zs6 (base : Nat)(F : Nat → Prop)(g : Nat)(p : PS)(t : TD)(w : World)(e : Ending)(w' : World) : Prop :=
 e = .returned (.tuple #[.int .i64 (zcP p t).1,.int .i64 (zcP p t).2]) ∧ ∃ F' : Nat → Prop,zam w' base F' g (zcm p t) ∧ Chg F w w' ∧ ∀ b,F' b → F b ∨ w.heap.size ≤ b
def zs7 (base : Nat)(F : Nat → Prop)(g : Nat)(p : PS)(t : TD)(w : World)(e : Ending)(w' : World) : Prop :=
 zs6 base F g p t w e w' ∧ w'.cell? ⟨g,2,none⟩ = w.cell? ⟨g,2,none⟩ ∧ w'.cell? ⟨g,3,none⟩ = w.cell? ⟨g,3,none⟩
theorem szST : (prog.info? 100).map (·.size) = some 1 := by kernel_rfl
theorem szSI : (prog.info? 28).map (·.size) = some 1 := by kernel_rfl
theorem fld0 (g : Nat)(w : World) : (Instr.fieldAt 102 (.pointer (some ⟨g,0,none⟩)) 0).run prog w = .ok (.pointer (some ⟨g,0,none⟩)) w := by go_simp
theorem fld1 (g : Nat)(w : World) : (Instr.fieldAt 102 (.pointer (some ⟨g,0,none⟩)) 1).run prog w = .ok (.pointer (some ⟨g,1,none⟩)) w := by go_simp
theorem fld2 (g : Nat)(w : World) : (Instr.fieldAt 102 (.pointer (some ⟨g,0,none⟩)) 2).run prog w = .ok (.pointer (some ⟨g,2,none⟩)) w := by go_simp
theorem fld3 (g : Nat)(w : World) : (Instr.fieldAt 102 (.pointer (some ⟨g,0,none⟩)) 3).run prog w = .ok (.pointer (some ⟨g,3,none⟩)) w := by go_simp
theorem zs8 (g : Nat)(w : World) : (Instr.fieldAt 147 (.pointer (some ⟨g,0,none⟩)) 2).run prog w = .ok (.pointer (some ⟨g,2,none⟩)) w := by go_simp
theorem zs9 (g : Nat)(w : World) : (Instr.fieldAt 147 (.pointer (some ⟨g,0,none⟩)) 3).run prog w = .ok (.pointer (some ⟨g,3,none⟩)) w := by go_simp
theorem zmh {F : Nat → Prop}{w : World}{x : Value}{r : Nat}(hx : ∀ b,x.ownBlock = some b → F b)(ho : ∀ b,F b → b < w.heap.size)(h : x.ownBlock = some r)(hb : w.heap.size ≤ r) : False := by
 have := ho _ (hx _ h);omega
structure UF (base : Nat)(F : Nat → Prop)(g bt : Nat)(p : PS)(t : TD)(w W : World) : Prop where
 pool : zam W base F g p
 box : Blk W bt 147 t.cells.toArray
 bt : bt = w.heap.size
 below : Below w.heap.size w W
 old : ∀ b,F b → b < w.heap.size
section
variable {base g bt : Nat}{F : Nat → Prop}{p : PS}{t : TD}{w W V : World}
theorem UF.step (h : UF base F g bt p t w W)(hb : Below W.heap.size W V) : UF base F g bt p t w V :=
 ⟨h.pool.below hb,h.box.below hb h.box.lt,h.bt,h.below.trans (hb.mono h.below.size),h.old⟩
theorem UF.lt (h : UF base F g bt p t w W) : w.heap.size + 1 ≤ W.heap.size := by have := h.box.lt; rw [h.bt] at this; omega
theorem UF.no (h : UF base F g bt p t w W)(e : zcm p t = p){n r : Int}(hn : zcP p t = (n,r)) : zs7 base F g p t w (.returned (.tuple #[.int .i64 n,.int .i64 r])) W := by
 have fg : g < w.heap.size := by obtain ⟨ls,ds,o,v,_,_,_,_,_,_,_,f1,_⟩ := h.pool.ex; exact h.old g f1
 refine ⟨⟨by rw [hn],F,by rw [e]; exact h.pool,⟨h.below.os,h.below.tape,h.below.output,h.below.size,fun i hi _ => h.below.block i hi⟩,fun b q => .inl q⟩,h.below.cell (p := ⟨g,2,none⟩) fg,h.below.cell (p := ⟨g,3,none⟩) fg⟩
end
theorem zmi {base g bt o v n wx : Nat}{F : Nat → Prop}{p : PS}{t : TD}{w W : World}{x y : Value}{d : Int}(h1 : okP p.T t = true)(h2 : atT p.T t = none)(h3 : p.T.length = n)(h4 : d = zd6 p.D (zax t))(h5 : ¬ 4000 ≤ n ∧ d ≤ 256)
 (h : RF base g bt o v F p t w x y x y (n + 1) (n + 1) (n + 1) (p.T.flatMap TD.cells ++ t.cells) (p.D.map (Value.int .i64) ++ [.int .i64 d]) (zeC (ofF p.T) t (.int .i64 (n : Nat))) (n + 1) (wdF (p.T ++ [t])) W)
 (hwf : WfP p) (hr : ∀ u ∈ p.T,u.wf) (ht : t.wf) (hfb : ∀ b,F b → base ≤ b ∧ b < wx) (hbase : base ≤ w.heap.size) : zs7 base F g p t w (.returned (.tuple #[.int .i64 (n : Nat),.int .i64 0])) W := by
 subst h3;have e : zcm p t = ⟨p.T ++ [t],p.D ++ [d]⟩ := by
  unfold zcm;rw [if_pos ⟨h1,h2,by omega,by rw [← h4]; omega⟩,← h4]
 have e2 : zcP p t = ((p.T.length : Int),0) := by
  unfold zcP;rw [h1,h2,← h4];simp;omega
 have hw := hwf.put t;rw [e] at hw;refine ⟨⟨by rw [e2],_,by rw [e]; exact h.fin hw hr ht h2 (fun b q => (hfb b q).1) hbase,h.chg,fun b q => Or.imp id And.left q⟩,(h.pool.cell 2).trans h.ov.2.1.symm,(h.pool.cell 3).trans h.ov.2.2.symm⟩
theorem zkG {base g : Nat}{F : Nat → Prop}{p : PS}(t : TD)(ht : t.wf)(w : World)(h : zam w base F g p)(hbase : base ≤ w.heap.size) :
 Calls prog 69 #[.pointer (some ⟨g,0,none⟩),zaw t] w (zs7 base F g p t w) := by
 have HT := Hd ht
 have HU : Hid (UF base F g w.heap.size p t w (w.alloc (.cells t.cells.toArray 147))) :=
  ⟨h.below ((Below.refl _ _).alloc (ztn _) _),Blk.new w _ _,rfl,(Below.refl _ _).alloc (ztn _) _,fun b q => (h.fb b q).2⟩
 clear ht h;unfold zaw;go_enter func69,ntmps69;go_upto_region 3 with fail
 obtain ⟨w1,hw1⟩ : ∃ w1,w.alloc (.cells t.cells.toArray 147) = w1 := ⟨_,rfl⟩;obtain ⟨bt,hbt⟩ : ∃ b,w.heap.size = b := ⟨_,rfl⟩;rw [hw1] at HU ⊢;rw [hbt] at HU ⊢;clear hw1 hbt;go_wp2_with (first
  | (refine zae rfl 147 (.tmp 3) rfl ⟨bt,0,none⟩ (by rfl) t.cells _ (zak HU.out.box) underlying147 rfl zcL ?_)
  | fail)
 refine (znk t HT.out _).mono ?_;rintro e w2 ⟨s,rfl,hn,hb⟩;obtain ⟨B2,hB2⟩ : ∃ B,w1.heap.size = B := ⟨_,rfl⟩;replace HU := Hd (HU.out.step hb)
 rw [hB2] at hn;have HN := Hd hn
 have hB2l : B2 ≤ w2.heap.size := by have := hb.size; omega
 clear hb hn hB2;go_wp2_with (first
  | (refine zag rfl 147 (.tmp 7) (.tmp 23) rfl _ (zay t).cells (zaw (zay t)) (by rfl) (by rfl) rfl zcL rfl (TD.one _) ?_
     intro w3 G3 L3 Z3;replace HU := Hd (HU.out.step L3)
     replace HN := Hd (HN.out.step L3)
     clear G3 L3)
  | fail)
 have hg0 : w.heap.size ≤ w3.heap.size := by have := HU.out.lt; omega
 obtain ⟨A,cc,rfl,hcl,hr,hge⟩ := HN.out;obtain ⟨m,hm⟩ : ∃ m,(zax t).length = m := ⟨_,rfl⟩;have HM := Hd hm
 have hl3 := zfB t;replace HN : Hid (za9 w3 B2 (.slice A m cc) (zax t)) := by rw [← hm]; exact ⟨A,cc,rfl,hcl,hr,hge⟩
 rw [hm] at hl3 hcl ⊢;obtain ⟨ok0,hok0⟩ : ∃ v,okF t = v := ⟨_,rfl⟩;have HOK := Hd hok0
 rw [hok0];clear hm hr hge hok0 Z3;go_wp2;go_simp;go_wp2;go_loop [8,9,27] (fun okv dv iv => ∃ (k : Nat) (ok : Bool) (d : Int),k ≤ m ∧ okv = .bool ok ∧ dv = .int .i64 d ∧ iv = .int .i64 k ∧ 1 ≤ d ∧ d ≤ 300 ∧ zes p t ok d k) (fun _ _ iv => m - (intOf iv).toNat)
 case atStart => exact ⟨0,ok0,1,by omega,rfl,rfl,rfl,by omega,by omega,by rw [← HOK.out]; exact zes.zero p t⟩
 case round =>
  obtain ⟨k,ok,d,hk,rfl,rfl,rfl,hd1,hd2,hR⟩ := hrel;have HR := Hd hR
  clear hR
  by_cases hlt : k < m
  ·obtain ⟨ad,x,rfl,hB,hx,_,_,hc⟩ := HN.out.at_ hlt
   have HX := Hd hx
   clear hx
   cases ok
   ·go_wp2
    go_round
    case rel => exact ⟨k + 1,false,d,by omega,rfl,rfl,by go_num,by omega,by omega,HR.out.no⟩
    case measure => simp [intOf]; omega
   ·go_wp2_with fail
    refine (ziY x HU.out.pool).mono ?_;rintro e w4 ⟨rfl,rfl⟩
    cases hb : zal p.T x
    ·have HB := Hd hb
     clear hb;go_wp2;go_round
     case rel => exact ⟨k + 1,false,d,by omega,rfl,rfl,by go_num,by omega,by omega,HR.out.bad HX.out HB.out⟩
     case measure => simp [intOf]; omega
    ·have HB := Hd hb
     obtain ⟨j,rfl⟩ : ∃ j : Nat,x = j := by
      unfold zal at hb;simp at hb;exact ⟨x.toNat,by omega⟩
     have hj : j < p.T.length := by
      unfold zal at hb;simp at hb;exact hb
     obtain ⟨ad2,c2,dd,d2,t2,y,_,_,h1,h2,_,_,_,hy,_,hy1,hy2,_,hcy⟩ := HU.out.pool.at_ hj;have HY := Hd hy
     obtain ⟨n,hn⟩ : ∃ n,p.T.length = n := ⟨_,rfl⟩;rw [hn] at h1 h2 hj;clear hb hy hn;have hj2 : j < d2 := by omega
     go_wp2;go_round
     case rel => exact ⟨k + 1,true,max d (y + 1),by omega,rfl,by go_num,by go_num,by omega,by omega,HR.out.good HX.out HB.out HY.out⟩
     case measure => simp [intOf]; omega
  ·obtain rfl : k = m := by omega
   have HOKK : Hid (ok = (okF t && (zax t).all (zal p.T)) ∧ (ok = true → d = zd6 p.D (zax t))) := by
    have := HR.out;unfold zes at this;rw [← HM.out,List.take_length] at this;exact this
   clear HR hk hlt HN hcl hl3 HM;obtain ⟨ls,ds,o,v,hG,hL,hD,hO,hV,hS,hov,f1,f2,f3,f4,f5⟩ := HU.out.pool.ex;have HV := Hd hV
   have c3 := hG.cell 3;have b0 := HU.out.box.cell 0;have b2 := HU.out.box.cell 2;have b3 := HU.out.box.cell 3;simp [TD.cells] at c3 b0 b2 b3;clear hG hL hD hO hV hS hov f1 f2 f3 f4 f5;have htn := HT.out.2.2.2.1;have HTN := Hd htn
   obtain ⟨th,ww,hw1,hw2,hcl⟩ : ∃ (th : Bool) (ww : Int),(wdF p.T t.n).getD (.int .i8 0) = .int .i8 ww ∧ (wdF p.T t.n).isSome = th ∧ zaI p.T t = (t.kind == 1 && (th && ww != t.w)) := by
    unfold wdF zaI
    cases wideF p.T t.n with
    | none => exact ⟨false,0,rfl,rfl,rfl⟩
    | some x => exact ⟨true,x,rfl,rfl,rfl⟩
   have HW1 := Hd hw1
   have HW2 := Hd hw2
   have HCL := Hd hcl
   clear htn hw1 hw2 hcl;go_wp2;refine wp_region_quiet_lit (by kernel_rfl) (by kernel_rfl) ?_
   repeat (first
    | (refine zfh rfl (.tmp 53) (.tmp 55) 99 rfl 30 zr3 underlying99 (.int .i8 0) zs5 HV.out t.n HTN.out (by rfl) (by rfl) (.int .i8 ww) th HW1.out HW2.out ?_
       go_simp)
    | go_big_quiet_step (fail))
   refine wpQuiet_nil ?_
   first
    | (intro wq hwq; obtain ⟨nq,rfl⟩ := hwq)
    | intro nq
   replace HU := Hd (HU.out.step (zad (Below.refl _ _) nq))
   generalize w3.drewN nq = w4 at HU ⊢;clear HV HW1 HW2 b3 c3;have b0 := HU.out.box.cell 0;have b2 := HU.out.box.cell 2;simp [TD.cells] at b0 b2;obtain ⟨cl,hcl⟩ : ∃ v,zaI p.T t = v := ⟨_,rfl⟩;have HC := Hd hcl
   clear hcl;go_upto_region 13 with fail
   go_cut [70] from 17 (fun x wc => x = .bool cl ∧ wc = w4)
   case first =>
    as_aux_lemma =>
     cases h1 : (t.kind == 1)
     ·go_wp2
      go_meet
      case rel => exact ⟨by rw [← HC.out,HCL.out,h1]; rfl,rfl⟩
     ·cases th
      ·go_wp2
       go_meet
       case rel => exact ⟨by rw [← HC.out,HCL.out,h1]; rfl,rfl⟩
      ·cases h2 : (ww != t.w)
       all_goals
        go_wp2;go_meet
        case rel => exact ⟨by rw [← HC.out,HCL.out,h1,h2]; rfl,rfl⟩
   case rest =>
    obtain ⟨rfl,rfl⟩ := hcut;have HOP := Hd (show okP p.T t = (ok && !cl) from by unfold okP; rw [HC.out,HOKK.out.1,Bool.and_assoc])
    have HDM := Hd HOKK.out.2
    clear HCL HC HOKK
    cases cl;rotate_left
    ·as_aux_lemma =>
     go_wp2;go_ret2;have hno : okP p.T t = false := by rw [HOP.out]; simp
     exact HU.out.no (by unfold zcm; rw [hno]; simp) (by unfold zcP; rw [hno]; rfl)
    cases ok
    ·as_aux_lemma =>
     go_wp2;go_ret2;have hno : okP p.T t = false := by rw [HOP.out]; rfl
     exact HU.out.no (by unfold zcm; rw [hno]; simp) (by unfold zcP; rw [hno]; rfl)
    have HD : Hid (d = zd6 p.D (zax t)) := HDM.out rfl;clear HDM;have HOT : Hid (okP p.T t = true) := HOP.out;clear HOP;obtain ⟨ls,ds,o,v,hG,hL,hD,hO,hV,hS,hov,f1,f2,f3,f4,f5⟩ := HU.out.pool.ex;have HO := Hd hO
    have c2 := hG.cell 2;simp at c2;clear hG hL hD hO hV hS hov f1 f2 f3 f4 f5 b0 b2;obtain ⟨i,hi1,hi2⟩ : ∃ i : Int,(ofF p.T t).getD (.int .i64 0) = .int .i64 i ∧ (∀ j,atT p.T t = some j → i = (j : Int)) := by
     unfold ofF
     cases atT p.T t with
     | none => exact ⟨0,rfl,fun j h => by cases h⟩
     | some j => exact ⟨j,rfl,fun j' h => by injection h with h; rw [h]⟩
    have HI1 := Hd hi1
    have HI2 := Hd hi2
    have HIS := Hd (show (ofF p.T t).isSome = (atT p.T t).isSome from by unfold ofF; cases atT p.T t <;> rfl)
    obtain ⟨fd,hfd⟩ : ∃ v,(atT p.T t).isSome = v := ⟨_,rfl⟩;rw [hfd] at HIS;have HFD := Hd hfd
    clear hi1 hi2 hfd;go_wp2;refine wp_region_quiet_lit (by kernel_rfl) (by kernel_rfl) ?_
    repeat (first
     | (refine zdV rfl 147 (.tmp 3) rfl ⟨bt,0,none⟩ (by rfl) t.cells _ (zak HU.out.box) underlying147 rfl zcL ?_
        go_simp)
     | (refine zfh rfl (.tmp 77) (.tmp 78) 98 rfl 3 zr2 underlying98 (.int .i64 0) zpx HO.out t HT.out (by rfl) (by rfl) (.int .i64 i) fd HI1.out HIS.out ?_
        go_simp)
     | go_big_quiet_step (fail))
    refine wpQuiet_nil ?_
    first
     | (intro wq hwq; obtain ⟨nq,rfl⟩ := hwq)
     | intro nq
    replace HU := Hd (HU.out.step (zad (Below.refl _ _) nq))
    generalize wc.drewN nq = w5 at HU ⊢;clear HO HI1 HIS c2
    cases fd;rotate_left
    ·as_aux_lemma =>
     go_wp2;go_ret2;obtain ⟨j,hj⟩ := Option.isSome_iff_exists.1 HFD.out;rw [HI2.out j hj];exact HU.out.no (by unfold zcm; rw [hj]; simp) (by unfold zcP; rw [HOT.out,hj]; rfl)
    have hno : atT p.T t = none := by
     have := HFD.out
     cases h : atT p.T t with
     | none => rfl
     | some j => rw [h] at this; cases this
    have HNO := Hd hno
    clear HFD HI2 hno;obtain ⟨A3,c3,D3,d3,hv1,hv2,_,_,_,_⟩ := HU.out.pool.view;obtain ⟨n,hn⟩ : ∃ n,p.T.length = n := ⟨_,rfl⟩;have hfew := HU.out.pool.few;have HN := Hd hn
    rw [hn] at hv1 hv2 hfew;clear hn
    by_cases hlim : 4000 ≤ n
    ·as_aux_lemma =>
     go_wp2;go_ret2;exact HU.out.no (by unfold zcm; rw [if_neg]; rintro ⟨_,_,h,_⟩; rw [HN.out] at h; omega) (by unfold zcP; rw [HOT.out,HNO.out,HN.out]; simp [hlim])
    by_cases hdl : 256 < d
    ·as_aux_lemma =>
     go_wp2;go_ret2;exact HU.out.no (by unfold zcm; rw [if_neg]; rintro ⟨_,_,_,h⟩; rw [← HD.out] at h; omega) (by unfold zcP; rw [HOT.out,HNO.out,← HD.out]; simp [hdl])
    go_wp2
    -- WRITING
    have HLIM := Hd (ztp hlim hdl)
    obtain ⟨ls,ds,o,v,hG,hL,hD,hO,hV,hS,hov,f1,f2,f3,f4,f5⟩ := HU.out.pool.ex;have HR0 := (RF.mk HU.out.box hG hL hD hO hV hS ⟨HU.out.below.os,HU.out.below.tape,HU.out.below.output,HU.out.below.size,fun i hi _ => HU.out.below.block i hi⟩ (fun b q => .inl (f4 b q)) (fun b q => .inl (f5 b q)) f1 f2 f3 HU.out.bt HU.out.old ⟨hov,(HU.out.below.cell (p := ⟨g,2,none⟩) (HU.out.old g f1)).symm.trans (hG.cell 2),(HU.out.below.cell (p := ⟨g,3,none⟩) (HU.out.old g f1)).symm.trans (hG.cell 3)⟩ : RF base g bt o v F p t w ls ds ls ds p.T.length p.T.length p.T.length (p.T.flatMap TD.cells) (p.D.map (Value.int .i64)) (ofF p.T) p.T.length (wdF p.T) w5);have HFX := Hd f4
    have HFY := Hd f5
    have HOLD := Hd HU.out.old
    have HRNG := Hd HU.out.pool.rng
    have HWF := Hd HU.out.pool.wf
    have HFB := Hd HU.out.pool.fb
    rw [HN.out] at HR0;have HR := Hd (HR0.step ((Below.refl _ _).drew))
    clear hG hL hD hO hV hS hov f1 f2 f3 f4 f5 HR0 HU hv1 hv2;obtain ⟨iM,hiM,hzM,hsM,hbM⟩ := info_parts zrF;have IM := Hd (ztp hiM (ztp hzM (ztp hsM hbM)))
    clear hiM hzM hsM hbM;obtain ⟨iN,hiN,hzN,hsN,hbN⟩ := info_parts zot;have IN := Hd (ztp hiN (ztp hzN (ztp hsN hbN)))
    clear hiN hzN hsN hbN;refine zac (fun w' => Blk w' bt 147 t.cells.toArray) (fun w' => Blk w' g 102 #[ls,ds,.map (some o),.map (some v)]) [24,27,28,30] (by kernel_rfl) ?_;generalize w5.drew = w6 at HR ⊢;refine em 0 (.pointer (some ⟨g,0,none⟩)) (.both HR.out.box HR.out.pool) ?_;refine em 1 (.pointer (some ⟨g,0,none⟩)) (.both HR.out.box HR.out.pool) ?_;refine em 2 (.pointer (some ⟨g,0,none⟩)) (.both HR.out.box HR.out.pool) ?_;refine ez 3 ⟨g,0,none⟩ (.both HR.out.box HR.out.pool) ?_;refine zdW 4 (some 103) 102 (.tmp 102) 2 ⟨g,0,none⟩ ⟨g,2,none⟩ rfl (by kernel_rfl) (by rfl) (fun _ _ _ h => h) (by rfl) (fld2 g) (.both HR.out.box HR.out.pool) ?_;simp only [pt,pn,sL];refine el true 5 ⟨g,2,none⟩ (.map (some o)) underlying98 (fun w hS => ((hS.2 rfl).cell 2)) (.both HR.out.box HR.out.pool) ?_;refine eL false 6 ⟨bt,0,none⟩ t.cells (fun w hS => zak hS.1) underlying147 zcL (.both HR.out.box HR.out.pool) ?_;refine em 7 (.pointer (some ⟨g,0,none⟩)) (.both HR.out.box HR.out.pool) ?_;refine ez 8 ⟨g,0,none⟩ (.both HR.out.box HR.out.pool) ?_;refine zdW 9 (some 108) 102 (.tmp 107) 0 ⟨g,0,none⟩ ⟨g,0,none⟩ rfl (by kernel_rfl) (by rfl) (fun _ _ _ h => h) (by rfl) (fld0 g) (.both HR.out.box HR.out.pool) ?_;simp only [pt,pn,sL];refine el true 10 ⟨g,0,none⟩ (ls) underlying100 (fun w hS => ((hS.2 rfl).cell 0)) (.both HR.out.box HR.out.pool) ?_;refine eL false 11 ⟨bt,0,none⟩ t.cells (fun w hS => zak hS.1) underlying147 zcL (.both HR.out.box HR.out.pool) ?_;refine em 14 (.pointer (some ⟨g,0,none⟩)) (.both HR.out.box HR.out.pool) ?_;refine ez 15 ⟨g,0,none⟩ (.both HR.out.box HR.out.pool) ?_;refine zdW 16 (some 115) 102 (.tmp 114) 1 ⟨g,0,none⟩ ⟨g,1,none⟩ rfl (by kernel_rfl) (by rfl) (fun _ _ _ h => h) (by rfl) (fld1 g) (.both HR.out.box HR.out.pool) ?_;simp only [pt,pn,sL];refine el true 17 ⟨g,1,none⟩ (ds) underlying28 (fun w hS => ((hS.2 rfl).cell 1)) (.both HR.out.box HR.out.pool) ?_;refine em 18 (.int .i64 d) (.both HR.out.box HR.out.pool) ?_;refine em 21 (.int .i64 n) (.both HR.out.box HR.out.pool) ?_;refine zod 12 19 (by kernel_rfl) ?ka ?kb
    case' ka =>
     refine (zar.slice_one 12 (some 111) 100 147 (.tmp 110) iM _ (zaw t) rfl (by rfl) underlying100 IM.out.1 IM.out.2.1 (by rw [IM.out.2.2.1]; decide) (by rw [IM.out.2.2.1]; decide) (by rfl) (by rw [IM.out.2.2.1]; rfl) ?_);intro wa ga hga Ba La;have HBA := Hd Ba
     replace HR := Hd (HR.out.step La)
     clear Ba La hga;refine ⟨.both HR.out.box HR.out.pool,?_⟩;simp only [pt,pn,sL];refine zod 13 19 (by kernel_rfl) ?kc ?kd
    case' kc =>
     refine (zar.append 13 (some 112) 100 147 (.tmp 109) (.tmp 111) base iM _ 7 40 rfl (by rfl) underlying100 IM.out.1 IM.out.2.1 IM.out.2.2.1 IM.out.2.2.2 rfl (by omega) ls n (p.T.flatMap TD.cells) (by rfl) HR.out.rx _ (some ⟨ga,0,none⟩) 1 1 t.cells (by rfl) (zbH (xs := t.cells) HBA.out 1 7 rfl) (TD.one t) (by unfold maxLen; omega) (by omega) (by have := HR.out.chg.size; omega) ?_);intro ls2 wb R2 G2 O2;obtain ⟨gx,cx,hx,_⟩ := (zbr.of_own R2).form (by omega);subst hx;replace HR := Hd (HR.out.appx HFX.out R2 G2 O2)
     clear R2 G2 O2;refine ⟨.both HR.out.box HR.out.pool,?_⟩;simp only [pt,pn,sL];refine zaN 19 (by kernel_rfl) (zar.slice_one 19 (some 118) 28 3 (.tmp 117) iN _ (.int .i64 d) rfl (by rfl) underlying28 IN.out.1 IN.out.2.1 (by rw [IN.out.2.2.1]; decide) (by rw [IN.out.2.2.1]; decide) (by rfl) (by rw [IN.out.2.2.1]; rfl) ?_);intro wc2 gb hgb Bb Lb;have HBB := Hd Bb
     have HGB : Hid (w.heap.size ≤ gb) := by have := HR.out.lt; exact zto (ztu this) hgb
     replace HR := Hd (HR.out.step Lb)
     clear Bb Lb hgb;refine ⟨.both HR.out.box HR.out.pool,?_⟩;simp only [pt,pn,sL]
    case' kd =>
     refine (zar.slice_one 19 (some 118) 28 3 (.tmp 117) iN _ (.int .i64 d) rfl (by rfl) underlying28 IN.out.1 IN.out.2.1 (by rw [IN.out.2.2.1]; decide) (by rw [IN.out.2.2.1]; decide) (by rfl) (by rw [IN.out.2.2.1]; rfl) ?_);intro wc2 gb hgb Bb Lb;have HBB := Hd Bb
     have HGB : Hid (w.heap.size ≤ gb) := by have := HR.out.lt; exact zto (ztu this) hgb
     replace HBA := Hd (HBA.out.below Lb HBA.out.lt)
     replace HR := Hd (HR.out.step Lb)
     clear Bb Lb hgb;refine ⟨.both HR.out.box HR.out.pool,?_⟩;simp only [pt,pn,sL];refine zaN 13 (by kernel_rfl) (zar.append 13 (some 112) 100 147 (.tmp 109) (.tmp 111) base iM _ 7 40 rfl (by rfl) underlying100 IM.out.1 IM.out.2.1 IM.out.2.2.1 IM.out.2.2.2 rfl (by omega) ls n (p.T.flatMap TD.cells) (by rfl) HR.out.rx _ (some ⟨ga,0,none⟩) 1 1 t.cells (by rfl) (zbH (xs := t.cells) HBA.out 1 7 rfl) (TD.one t) (by unfold maxLen; omega) (by omega) (by have := HR.out.chg.size; omega) ?_);intro ls2 wb R2 G2 O2;obtain ⟨gx,cx,hx,_⟩ := (zbr.of_own R2).form (by omega);subst hx;replace HR := Hd (HR.out.appx HFX.out R2 G2 O2)
     replace HBB := Hd (HBB.out.grown G2 (fun e => zmh HFX.out HOLD.out e.symm HGB.out))
     clear R2 G2 O2;refine ⟨.both HR.out.box HR.out.pool,?_⟩;simp only [pt,pn,sL]
    case' kb =>
     refine (zar.slice_one 19 (some 118) 28 3 (.tmp 117) iN _ (.int .i64 d) rfl (by rfl) underlying28 IN.out.1 IN.out.2.1 (by rw [IN.out.2.2.1]; decide) (by rw [IN.out.2.2.1]; decide) (by rfl) (by rw [IN.out.2.2.1]; rfl) ?_);intro wc2 gb hgb Bb Lb;have HBB := Hd Bb
     have HGB : Hid (w.heap.size ≤ gb) := by have := HR.out.lt; exact zto (ztu this) hgb
     replace HR := Hd (HR.out.step Lb)
     clear Bb Lb hgb;refine ⟨.both HR.out.box HR.out.pool,?_⟩;simp only [pt,pn,sL];refine zaN 12 (by kernel_rfl) (zar.slice_one 12 (some 111) 100 147 (.tmp 110) iM _ (zaw t) rfl (by rfl) underlying100 IM.out.1 IM.out.2.1 (by rw [IM.out.2.2.1]; decide) (by rw [IM.out.2.2.1]; decide) (by rfl) (by rw [IM.out.2.2.1]; rfl) ?_);intro wa ga hga Ba La;have HBA := Hd Ba
     replace HBB := Hd (HBB.out.below La HBB.out.lt)
     replace HR := Hd (HR.out.step La)
     clear Ba La hga;refine ⟨.both HR.out.box HR.out.pool,?_⟩;simp only [pt,pn,sL];refine zaN 13 (by kernel_rfl) (zar.append 13 (some 112) 100 147 (.tmp 109) (.tmp 111) base iM _ 7 40 rfl (by rfl) underlying100 IM.out.1 IM.out.2.1 IM.out.2.2.1 IM.out.2.2.2 rfl (by omega) ls n (p.T.flatMap TD.cells) (by rfl) HR.out.rx _ (some ⟨ga,0,none⟩) 1 1 t.cells (by rfl) (zbH (xs := t.cells) HBA.out 1 7 rfl) (TD.one t) (by unfold maxLen; omega) (by omega) (by have := HR.out.chg.size; omega) ?_);intro ls2 wb R2 G2 O2;obtain ⟨gx,cx,hx,_⟩ := (zbr.of_own R2).form (by omega);subst hx;replace HR := Hd (HR.out.appx HFX.out R2 G2 O2)
     replace HBB := Hd (HBB.out.grown G2 (fun e => zmh HFX.out HOLD.out e.symm HGB.out))
     clear R2 G2 O2;refine ⟨.both HR.out.box HR.out.pool,?_⟩;simp only [pt,pn,sL]
    all_goals
     refine zaN 20 (by kernel_rfl) (zar.append 20 (some 119) 28 3 (.tmp 116) (.tmp 118) base iN _ 1 8 rfl (by rfl) underlying28 IN.out.1 IN.out.2.1 IN.out.2.2.1 IN.out.2.2.2 rfl (by omega) ds n (p.D.map (Value.int .i64)) (by rfl) HR.out.ry _ (some ⟨gb,0,none⟩) 1 1 [.int .i64 d] (by rfl) (zbH (xs := [.int .i64 d]) HBB.out 1 1 rfl) zdD (by unfold maxLen; omega) (by omega) (by have := HR.out.chg.size; omega) ?_);intro ds2 wd2 R2 G2 O2;obtain ⟨gy,cy,hy,_⟩ := (zbr.of_own R2).form (by omega);subst hy;replace HR := Hd (HR.out.appy HFY.out R2 G2 O2)
     clear R2 G2 O2 HBA HBB HGB;refine ⟨.both HR.out.box HR.out.pool,?_⟩;simp only [pt,pn,sL];refine zaN 22 (by kernel_rfl) (zar.nil 22 (some 121) (.tmp 99) ⟨g,0,none⟩ rfl (by rfl) (by rfl) (.both HR.out.box HR.out.pool) ?_);simp only [pt,pn,sL];refine zaN 23 (by kernel_rfl) (zar.field 23 (some 122) 102 (.tmp 121) 0 ⟨g,0,none⟩ ⟨g,0,none⟩ rfl (by rfl) (by rfl) (fld0 g) (.both HR.out.box HR.out.pool) ?_);simp only [pt,pn,sL];refine zaN 24 (by kernel_rfl) (zar.store_cell 24 100 102 (.tmp 122) (.tmp 112) g 0 _ (.slice (some ⟨gx,0,none⟩) (n + 1) cx) rfl (by rfl) HR.out.pool (by rfl) (by rfl) (zaE 100 g 0 102 _ _ HR.out.pool (by simp) szST rfl rfl) ?_);intro w7 B7 G7;replace HR := Hd (HR.out.set (b0 := .slice (some ⟨gx,0,none⟩) (n + 1) cx) (b1 := ds) B7 G7)
     clear B7 G7;refine ⟨(.after HR.out.box (by kernel_rfl)),?_⟩;simp only [pt,pn,sL];refine zaN 25 (by kernel_rfl) (zar.nil 25 (some 123) (.tmp 100) ⟨g,0,none⟩ rfl (by rfl) (by rfl) (.after HR.out.box (by kernel_rfl)) ?_);simp only [pt,pn,sL];refine zaN 26 (by kernel_rfl) (zar.field 26 (some 124) 102 (.tmp 123) 1 ⟨g,0,none⟩ ⟨g,1,none⟩ rfl (by rfl) (by rfl) (fld1 g) (.after HR.out.box (by kernel_rfl)) ?_);simp only [pt,pn,sL];refine zaN 27 (by kernel_rfl) (zar.store_cell 27 28 102 (.tmp 124) (.tmp 119) g 1 _ (.slice (some ⟨gy,0,none⟩) (n + 1) cy) rfl (by rfl) HR.out.pool (by rfl) (by rfl) (zaE 28 g 1 102 _ _ HR.out.pool (by simp) szSI rfl rfl) ?_);intro w8 B8 G8;replace HR := Hd (HR.out.set (b0 := .slice (some ⟨gx,0,none⟩) (n + 1) cx) (b1 := .slice (some ⟨gy,0,none⟩) (n + 1) cy) B8 G8)
     clear B8 G8;refine ⟨(.after HR.out.box (by kernel_rfl)),?_⟩;simp only [pt,pn,sL];obtain ⟨c,w9,hrun,hg9,hst⟩ := HR.out.mo.entry HR.out.st zr2 underlying98 (.int .i64 0) zpx t HT.out (by unfold ofF; rw [HNO.out]; rfl);obtain ⟨w10,hrun2,hm10,hs10,hg10⟩ := hst (.int .i64 (n : Nat));have HBX := Hd (HR.out.box.grown hg9 (fun e => by injection e with e; exact zbh HR.out.box HR.out.mo e))
     replace HR := Hd (HR.out.mapo hm10 hs10 hg10)
     have HE1 := Hd hrun
     have HE2 := Hd hrun2
     clear hrun hrun2 hst hm10 hs10 hg10 hg9;refine zaN 28 (by kernel_rfl) (zar.entry 28 (some 125) 98 (.tmp 104) (.tmp 105) _ _ _ w9 rfl (by rfl) (by rfl) (by rfl) HE1.out (.after HBX.out (by kernel_rfl)) ?_);simp only [pt,pn,sL];refine zaN 29 (by kernel_rfl) (zar.extract 29 (some 126) (.tmp 125) 1 _ (goInt c) rfl (by rfl) (by rfl) rfl (.after HBX.out (by kernel_rfl)) ?_);simp only [pt,pn,sL];refine zaN 30 (by kernel_rfl) (zar.entrySet 30 98 (.tmp 104) (.tmp 126) (.tmp 120) _ _ _ w10 rfl (by rfl) (by rfl) (by rfl) (by rfl) HE2.out (.after HR.out.box (by kernel_rfl)) ?_);simp only [pt,pn,sL];refine zab (by kernel_rfl) ?_ _;clear HBX HE1 HE2 IM IN HFX HFY HOLD;have b0 := HR.out.box.cell 0;simp [TD.cells] at b0
     cases hk : (t.kind == 1)
     ·go_wp2
      go_ret2;exact zmi HOT.out HNO.out HN.out HD.out HLIM.out (HR.out.mapw (HR.out.mv.mono (Nat.le_succ _)) (fun q => zoZ (by simpa using hk) q)) HWF.out HRNG.out HT.out HFB.out hbase
     ·have HK := Hd (show t.kind = 1 by simpa using hk)
      go_wp2;obtain ⟨w11,hrun,hm11,hg11⟩ := (HR.out.step ((Below.refl _ _).drew)).mv.update zr3 underlying99 (by have := HLIM.out.1; unfold maxLen; omega) t.n HT.out.2.2.2.1 (.int .i8 t.w);refine zac (fun _ => True) (fun w' => Blk w' bt 147 t.cells.toArray ∧ Blk w' g 102 #[.slice (some ⟨gx,0,none⟩) (n + 1) cx,.slice (some ⟨gy,0,none⟩) (n + 1) cy,.map (some o),.map (some v)]) [8] (by kernel_rfl) ?_;replace HR := Hd (HR.out.step ((Below.refl _ _).drew))
      generalize w10.drew = w12 at HR hrun hm11 hg11 ⊢;have HE := Hd hrun
      have HM := Hd hm11
      have HG := Hd hg11
      clear hrun hm11 hg11 b0;refine em 0 (.pointer (some ⟨g,0,none⟩)) (.both trivial (ztp HR.out.box HR.out.pool)) ?_;refine ez 1 ⟨g,0,none⟩ (.both trivial (ztp HR.out.box HR.out.pool)) ?_;refine zdW 2 (some 132) 102 (.tmp 131) 3 ⟨g,0,none⟩ ⟨g,3,none⟩ rfl (by kernel_rfl) (by rfl) (fun _ _ _ h => h) (by rfl) (fld3 g) (.both trivial (ztp HR.out.box HR.out.pool)) ?_;simp only [pt,pn,sL];refine el true 3 ⟨g,3,none⟩ (.map (some v)) underlying99 (fun w hS => ((hS.2 rfl).2.cell 3)) (.both trivial (ztp HR.out.box HR.out.pool)) ?_;refine zdW 4 (some 134) 147 (.tmp 3) 3 ⟨bt,0,none⟩ ⟨bt,3,none⟩ rfl (by kernel_rfl) (by rfl) (fun _ _ _ h => h) (by rfl) (zs9 bt) (.both trivial (ztp HR.out.box HR.out.pool)) ?_;simp only [pt,pn,sL];refine el true 5 ⟨bt,3,none⟩ (.int .u64 t.n) underlying31 (fun w hS => ((hS.2 rfl).1.cell 3)) (.both trivial (ztp HR.out.box HR.out.pool)) ?_;refine zdW 6 (some 136) 147 (.tmp 3) 2 ⟨bt,0,none⟩ ⟨bt,2,none⟩ rfl (by kernel_rfl) (by rfl) (fun _ _ _ h => h) (by rfl) (zs8 bt) (.both trivial (ztp HR.out.box HR.out.pool)) ?_;simp only [pt,pn,sL];refine el true 7 ⟨bt,2,none⟩ (.int .i8 t.w) underlying30 (fun w hS => ((hS.2 rfl).1.cell 2)) (.both trivial (ztp HR.out.box HR.out.pool)) ?_;refine zaN 8 (by kernel_rfl) (zar.mapSet 8 99 (.tmp 133) (.tmp 135) (.tmp 137) _ _ _ w11 rfl (by rfl) (by rfl) (by rfl) (by rfl) HE.out (.after trivial (by kernel_rfl)) ?_);simp only [pt,pn,sL];refine zab (by kernel_rfl) ?_ _;replace HR := Hd (HR.out.mapv HM.out HG.out)
      clear HE HM HG;go_wp2;go_ret2;exact zmi HOT.out HNO.out HN.out HD.out HLIM.out (HR.out.mapw HR.out.mv (fun q => zqJ HK.out (zdU HOT.out).2.2 q)) HWF.out HRNG.out HT.out HFB.out hbase
theorem zqm {base g : Nat}{F : Nat → Prop}{p : PS}(t : TD)(ht : t.wf)(w : World)(h : zam w base F g p)(hbase : base ≤ w.heap.size) :
 Calls prog 69 #[.pointer (some ⟨g,0,none⟩),zaw t] w (zs6 base F g p t w) := (zkG t ht w h hbase).mono fun _ _ q => q.1
end
section
structure PG (base g : Nat)(F : Nat → Prop)(w : World)(F' : Nat → Prop)(p' : PS)(w' : World) : Prop where
 pool : zam w' base F' g p'
 chg : Chg F w w'
 new : ∀ b,F' b → F b ∨ w.heap.size ≤ b
section
variable {base g : Nat}{F F1 F2 : Nat → Prop}{w w1 w2 : World}{p p1 p2 : PS}
theorem PG.refl (h : zam w base F g p) : PG base g F w F p w := ⟨h,Chg.refl _ _,fun b q => .inl q⟩
theorem PG.trans (h : PG base g F w F1 p1 w1)(k : PG base g F1 w1 F2 p2 w2) : PG base g F w F2 p2 w2 :=
 ⟨k.pool,h.chg.trans k.chg h.new,fun b q => (k.new b q).elim (h.new b) (fun e => .inr (zto h.chg.size e))⟩
theorem PG.step (h : PG base g F w F1 p1 w1)(hb : Below w1.heap.size w1 w2) : PG base g F w F1 p1 w2 :=
 h.trans ⟨h.pool.below hb,Chg.of_below hb,fun b q => .inl q⟩
theorem PG.of_below (h : zam w base F g p)(hb : Below w.heap.size w w1) : PG base g F w F p w1 := (PG.refl h).step hb
theorem PG.blk (h : PG base g F w F1 p1 w1){b : Nat}{t : TypeId}{cs : Array Value}(hb : Blk w b t cs)(hf : ¬ F b) : Blk w1 b t cs ∧ ¬ F1 b :=
 ⟨h.chg.blk hb hf,fun q => (h.new b q).elim hf (fun e => by have := hb.lt; omega)⟩
theorem PG.size (h : PG base g F w F1 p1 w1) : w.heap.size ≤ w1.heap.size := h.chg.size
end
def zbT (base g : Nat)(F : Nat → Prop)(w : World)(r : RS)(e : Ending)(w' : World) : Prop :=
 e = .returned (.tuple #[.int .i64 r.2.1,.int .i64 r.2.2]) ∧ ∃ F',PG base g F w F' r.1 w'
section
variable {base g : Nat}{F F1 : Nat → Prop}{w w1 w2 : World}{p p1 : PS}{r : RS}{e : Ending}
theorem zbT.from (h : PG base g F w F1 p1 w1)(k : zbT base g F1 w1 r e w2) : zbT base g F w r e w2 := by
 obtain ⟨h1,F2,h2⟩ := k;exact ⟨h1,F2,h.trans h2⟩
theorem zbT.same (h : PG base g F w F1 p1 w1){n m : Int} : zbT base g F w (p1,n,m) (.returned (.tuple #[.int .i64 n,.int .i64 m])) w1 := ⟨rfl,F1,h⟩
theorem zbT.of_put {t : TD}(h : zs6 base F g p t w e w1) : zbT base g F w (putR p t) e w1 := by
 obtain ⟨h1,F',h2,h3,h4⟩ := h;exact ⟨h1,F',h2,h3,h4⟩
end
theorem zkH {base g : Nat}{F : Nat → Prop}{p : PS}(t : TD)(ht : t.wf)(w : World)(h : zam w base F g p)(hbase : base ≤ w.heap.size) :
  Calls prog 69 #[.pointer (some ⟨g,0,none⟩),zaw t] w (zbT base g F w (putR p t)) := (zqm t ht w h hbase).mono fun _ _ q => zbT.of_put q
theorem zmj {T : List TD}{n : Int}(h : zal T n = false) : atP T n = zbi := by unfold atP; rw [h]; rfl
theorem zhk {T : List TD}{n : Int}(h : zal T n = true) : ∃ k : Nat,n = (k : Int) ∧ T[k]? = some (atP T n) := by
 have h' := h;unfold zal at h;simp at h;refine ⟨n.toNat,by omega,?_⟩;unfold atP;rw [if_pos h',zts,ztq (by omega)]
 rfl
theorem zou : zbi.wf := by unfold TD.wf I8 U64 I64 zbi; dsimp only; omega
theorem zba {T : List TD}(hr : ∀ t ∈ T,t.wf)(n : Int) : (atP T n).wf := by
 cases h : zal T n
 ·rw [zmj h]; exact zou
 ·obtain ⟨k,_,hk⟩ := zhk h
  exact hr _ (ztv hk)
section
variable {base g : Nat}{F : Nat → Prop}{p : PS}
theorem zjI (k : Int)(w : World)(h : zam w base F g p) : Calls prog 95 #[.pointer (some ⟨g,0,none⟩),.int .i64 k] w fun e w' => e = .returned (.tuple #[zaw (atP p.T k),.int .i64 (if zal p.T k = true then 0 else 2)]) ∧ Below w.heap.size w w' := by
 cases hk : zal p.T k
 ·rw [zmj hk]
  exact zo0 h hk
 ·obtain ⟨j,rfl,hj⟩ := zhk hk
  exact zqL h hj
theorem zgK (k : Int)(w : World)(h : zam w base F g p) : Calls prog 130 #[.agg #[.pointer (some ⟨g,0,none⟩)],.int .i64 k] w fun e w' => e = .returned (zaw (atP p.T k)) ∧ Below w.heap.size w w' := by
 have hb0 : Below w.heap.size w ((w.alloc (.cells #[.pointer (some ⟨g,0,none⟩)] 125)).alloc (.cells zbi.cells.toArray 147)) := ((Below.refl _ w).alloc (ztn _) _).alloc (by simp) _;have N0 := Blk.new (w.alloc (.cells #[.pointer (some ⟨g,0,none⟩)] 125)) 147 zbi.cells.toArray;simp only [World.size_alloc] at N0;have HP := Hd (h.below hb0)
 have HB := Hd hb0
 have HN := Hd N0
 have HW := Hd (zba h.rng k)
 clear h hb0 N0;go_enter func130,ntmps130;go_wp2_with fail
 refine (zjI k _ HP.out).mono ?_;rintro e w1 ⟨rfl,hb⟩;have HB1 := Hd (HB.out.trans (hb.mono HB.out.size))
 have HN1 := Hd (HN.out.below hb HN.out.lt)
 clear hb HP HB HN;generalize (if zal p.T k = true then (0 : Int) else 2) = er;obtain ⟨t,ht⟩ : ∃ t,atP p.T k = t := ⟨_,rfl⟩;rw [ht] at HW ⊢;have HT := Hd ht
 clear ht;go_upto_region 2 with (first
  | (refine zag rfl 147 (.tmp 5) (.tmp 12) rfl _ t.cells (zaw t) (by rfl) (by rfl) rfl zcL rfl (TD.one _) ?_
     intro w5 G5 L5 Z5;have HX := Hd G5
     have HB2 := Hd (HB1.out.trans (L5.mono HB1.out.size))
     have HN2 := Hd (HN1.out.below L5 HN1.out.lt)
     clear G5 L5 Z5)
  | fail)
 go_wp2_with (first
  | (refine zae rfl 147 (.tmp 5) rfl ⟨w1.heap.size,0,none⟩ (by rfl) t.cells _ (zak HX.out) underlying147 rfl zcL ?_)
  | (refine zaa rfl 147 (.tmp 4) (.tmp 14) rfl (w.heap.size + 1) 0 147 zbi.cells t.cells (.agg t.cells.toArray) HN2.out (by rfl) (by rfl) rfl zcL (by simp [TD.cells]) (TD.one _) ?_
     intro w6 G6 L6 Z6;have HY := Hd G6
     have HB3 := Hd (HB2.out.grown L6 HB2.out.size (fun b e => by injection e with e; omega))
     clear G6 L6 Z6)
  | fail)
 have e : zaM zbi.cells 0 t.cells = t.cells := by unfold zaM; simp [TD.cells]
 have hrl := zaC (P := prog) w6 ⟨w.heap.size + 1,0,none⟩ 147 t.cells _ (zak (by rw [← e]; exact HY.out)) underlying147 rfl zcL;exact bodyPost_ret (v := zaw t) (by simp [results,results130,Act.put,asAddr,Result.andThen,hrl,zaw]) rfl ⟨by rw [HT.out],HB3.out⟩
theorem zcc (k : Int)(w : World)(h : zam w base F g p) : Calls prog 113 #[.agg #[.pointer (some ⟨g,0,none⟩)],.int .i64 k] w fun e w' => e = .returned (.tuple #[.int .u64 (atP p.T k).n,.bool ((atP p.T k).kind == 0)]) ∧ Below w.heap.size w w' := by
 obtain ⟨t,ht⟩ : ∃ t,atP p.T k = t := ⟨_,rfl⟩;rw [ht];have HT := Hd ht
 clear ht;have hb0 : Below w.heap.size w (w.alloc (.cells #[.pointer (some ⟨g,0,none⟩)] 125)) := (Below.refl _ w).alloc (ztn _) _;have HP := Hd (h.below hb0)
 have HB := Hd hb0
 clear h hb0;go_enter func113,ntmps113;go_wp2_with fail
 refine (zgK k _ HP.out).mono ?_;rintro e w1 ⟨rfl,hb⟩;have HB1 := Hd (HB.out.trans (hb.mono HB.out.size))
 clear hb HP HB;rw [HT.out];go_upto_region 2 with (first
  | (refine zag rfl 147 (.tmp 6) (.tmp 9) rfl _ t.cells (zaw t) (by rfl) (by rfl) rfl zcL rfl (TD.one _) ?_
     intro w5 G5 L5 Z5;have HX := Hd G5
     have HB2 := Hd (HB1.out.trans (L5.mono HB1.out.size))
     clear G5 L5 Z5)
  | fail)
 have b0 := HX.out.cell 0;have b3 := HX.out.cell 3;simp [TD.cells] at b0 b3;go_wp2_with fail
 go_quiet (fail)
 go_wp2;go_ret2;exact ⟨rfl,zad HB2.out nq⟩
theorem zaP {n : Int}(h : U64 n) : (zaf n).wf := by unfold TD.wf I8 I64 zaf; dsimp only; exact ⟨by omega,by omega,by omega,h,by omega,by omega,by omega⟩
theorem zfZ (n : Int)(w : World) : (Instr.build 147 #[(0,.int .i8 0),(3,.int .u64 n)]).run prog w = .ok (zaw (zaf n)) w := run_build w 147 _ _ (by kernel_rfl)
theorem zb1 (n : Int)(hn : U64 n)(w : World)(h : zam w base F g p)(hbase : base ≤ w.heap.size) :
  Calls prog 39 #[.pointer (some ⟨g,0,none⟩),.int .u64 n] w (zbT base g F w (putR p (zaf n))) := by
 have HP := Hd h
 have HW := Hd (zaP hn)
 have q := fun (w : World) => zfZ n w
 clear h hn;go_enter func39,ntmps39;go_wp2_with fail
 refine (zkH _ HW.out _ HP.out hbase).mono ?_;rintro e w1 ⟨rfl,hr⟩;have HR := Hd hr
 clear hr;go_wp2;go_ret2;exact ⟨rfl,HR.out⟩
def zdJ (n x : Int) : TD := ⟨1,0,x,n,0,0,0⟩
theorem zed {n x : Int}(h : U64 n)(hx : I8 x) : (zdJ n x).wf := by unfold TD.wf I8 I64 zdJ; unfold I8 at hx; dsimp only; exact ⟨by omega,by omega,hx,h,by omega,by omega,by omega⟩
theorem zhZ (n x : Int)(w : World) : (Instr.build 147 #[(0,.int .i8 1),(3,.int .u64 n),(2,.int .i8 x)]).run prog w = .ok (zaw (zdJ n x)) w := run_build w 147 _ _ (by kernel_rfl)
theorem zmk (n x : Int)(h0 : 0 ≤ n)(h1 : n < 9223372036854775808)(hx : I8 x)(w : World)(h : zam w base F g p)(hbase : base ≤ w.heap.size) :
  Calls prog 36 #[.pointer (some ⟨g,0,none⟩),.int .i64 n,.int .i8 x] w (zbT base g F w (putR p (zdJ n x))) := by
 have HP := Hd h
 have HW := Hd (zed (n := n) (by unfold U64; omega) hx)
 have hwr : IntKind.u64.wrap n = n := by rw [IntKind.wrap_u64]; omega
 have q := fun (w : World) => zhZ n x w
 have hd : decide (n < 0) = false := by simp; omega
 clear h hx;go_enter func36,ntmps36;go_wp2_with fail
 refine (zkH _ HW.out _ HP.out hbase).mono ?_;rintro e w1 ⟨rfl,hr⟩;have HR := Hd hr
 clear hr;go_wp2;go_ret2;exact ⟨rfl,HR.out⟩
theorem zpy {k : IntKind}{a b : Int}(h : a = b) : Ending.returned (.int k a) = .returned (.int k b) := by rw [h]
theorem zf0 (l : List Int)(A : Option Addr)(n c : Nat)(w : World)(h : zam w base F g p)(hr : zaU w w.heap.size 1 A n (l.map (Value.int .i64)))(hl : l.length = n)(hc : n ≤ c)(hn : n < 1000) :
  Calls prog 111 #[.pointer (some ⟨g,0,none⟩),.slice A n c] w fun e w' => e = .returned (.int .i64 (if l.all (zal p.T) = true then 0 else 2)) ∧ Below w.heap.size w w' := by
 have HP := Hd h
 have HR := Hd hr
 have HL := Hd hl
 obtain ⟨r,hr'⟩ : ∃ r : Int,(if l.all (zal p.T) = true then 0 else 2) = r := ⟨_,rfl⟩;rw [hr'];have HRR := Hd hr'
 clear h hr hl hr';go_enter func111,ntmps111;go_wp2;go_loopw [13] (fun iv wr => ∃ k : Nat,k ≤ n ∧ iv = .int .i64 (k : Int) ∧ Below w.heap.size w wr ∧ (l.take k).all (zal p.T) = true) (fun iv _ => n - (intOf iv).toNat)
 case atStart => exact ⟨0,by omega,rfl,Below.refl _ _,by simp⟩
 case round =>
  obtain ⟨k,hk,rfl,hb,ha⟩ := hrel;have HB := Hd hb
  have HA := Hd ha
  clear hb ha
  by_cases hlt : k < n
  ·obtain ⟨ad,u,rfl,_,hu,hcl⟩ := (HR.out.below HB.out).at_ hlt
   rw [ztw,ztq (by rw [HL.out]; exact hlt)] at hu;injection hu with hu
   subst hu;have HX := Hd (ztq (l := l) (i := k) (by rw [HL.out]; exact hlt))
   generalize l[k]'(by rw [HL.out]; exact hlt) = x at HX hcl;have hkc : k < c := by omega
   cases hx : zal p.T x
   ·have HXB := Hd hx
    clear hx;go_wp2_with fail
    refine (zjI x _ (HP.out.below HB.out)).mono ?_;rintro e w1 ⟨rfl,hb⟩;rw [HXB.out];simp only [ztL,if_false];have HB1 := Hd (HB.out.trans (hb.mono HB.out.size))
    clear hb;have HW := Hd (zba HP.out.rng x)
    generalize atP p.T x = t at HW ⊢;go_upto_region 7 with (first
     | (refine zag rfl 147 (.tmp 7) (.tmp 21) rfl _ t.cells (zaw t) (by rfl) (by rfl) rfl zcL rfl (TD.one _) ?_
        intro w5 G5 L5 Z5;have HB2 := Hd (HB1.out.trans (L5.mono HB1.out.size))
        clear G5 L5 Z5)
     | fail)
    go_wp2;go_ret;refine ⟨zpy ?_,HB2.out⟩;rw [← HRR.out,if_neg];intro hall;rw [zt8] at hall;have := hall x (ztv HX.out);rw [HXB.out] at this
    cases this
   ·have HXB := Hd hx
    clear hx;go_wp2_with fail
    refine (zjI x _ (HP.out.below HB.out)).mono ?_;rintro e w1 ⟨rfl,hb⟩;rw [HXB.out];simp only [if_true];have HB1 := Hd (HB.out.trans (hb.mono HB.out.size))
    clear hb;have HW := Hd (zba HP.out.rng x)
    generalize atP p.T x = t at HW ⊢;go_upto_region 7 with (first
     | (refine zag rfl 147 (.tmp 7) (.tmp 21) rfl _ t.cells (zaw t) (by rfl) (by rfl) rfl zcL rfl (TD.one _) ?_
        intro w5 G5 L5 Z5;have HB2 := Hd (HB1.out.trans (L5.mono HB1.out.size))
        clear G5 L5 Z5)
     | fail)
    go_wp2;go_roundw
    case measure => simp [intOf]; omega
    case rel => exact ⟨k + 1,by omega,by go_num,HB2.out,by rw [ztF,HX.out,List.all_append,HA.out]; simp [HXB.out]⟩
  ·obtain rfl : k = n := by omega
   go_wp2;go_ret;refine ⟨zpy ?_,HB.out⟩;have q := HA.out;rw [← HL.out,List.take_length] at q;rw [← HRR.out,if_pos q]
end
end
section
theorem zov {x n : Int}(hx : x = 8 ∨ x = 16 ∨ x = 32)(h : 0 ≤ n) : (n / 2 ^ x.toNat == 0) = decide (n = zao x n) := by
 rw [Bool.eq_iff_iff];simp only [beq_iff_eq,decide_eq_true_eq];unfold zao
 rcases hx with rfl | rfl | rfl
 ·show n / 256 = 0 ↔ _
  simp;omega
 ·show n / 65536 = 0 ↔ _
  simp;omega
 ·show n / 4294967296 = 0 ↔ _
  simp;omega
theorem zfd {a b : Bool}(h : a = b) : Ending.returned (.bool a) = .returned (.bool b) := by rw [h]
section
variable {base g : Nat}{F : Nat → Prop}{p : PS}
theorem zkI (k x : Int)(hx : x = 8 ∨ x = 16 ∨ x = 32 ∨ x = 64)(w : World)(h : zam w base F g p) :
  Calls prog 158 #[.agg #[.pointer (some ⟨g,0,none⟩)],.int .i64 k,.int .i8 x] w fun e w' => e = .returned (.bool (zbY p.T k x)) ∧ Below w.heap.size w w' := by
 obtain ⟨t,ht⟩ : ∃ t,atP p.T k = t := ⟨_,rfl⟩;have htw : t.wf := by rw [← ht]; exact zba h.rng k
 obtain ⟨r,hr⟩ : ∃ r,zbY p.T k x = r := ⟨_,rfl⟩;rw [hr];unfold zbY at hr;rw [ht] at hr;have HR := Hd hr
 have HT := Hd ht
 have HU := Hd htw.2.2.2.1
 have hb0 : Below w.heap.size w (w.alloc (.cells #[.pointer (some ⟨g,0,none⟩)] 125)) := (Below.refl _ w).alloc (ztn _) _;have HP := Hd (h.below hb0)
 have HB := Hd hb0
 have HX0 := Hd hx
 clear h hb0 ht htw hr hx;go_enter func158,ntmps158;go_wp2_with fail
 refine (zgK k _ HP.out).mono ?_;rintro e w1 ⟨rfl,hb⟩;have HB1 := Hd (HB.out.trans (hb.mono HB.out.size))
 clear hb HP HB;rw [HT.out];go_upto_region 2 with (first
  | (refine zag rfl 147 (.tmp 7) (.tmp 10) rfl _ t.cells (zaw t) (by rfl) (by rfl) rfl zcL rfl (TD.one _) ?_
     intro w5 G5 L5 Z5;have HX := Hd G5
     have HB2 := Hd (HB1.out.trans (L5.mono HB1.out.size))
     clear G5 L5 Z5)
  | fail)
 have b0 := HX.out.cell 0;have b2 := HX.out.cell 2;have b3 := HX.out.cell 3;simp [TD.cells] at b0 b2 b3
 cases h64 : (x == 64)
 ·cases h4 : (t.kind == 4)
  ·have hx0 : (0 : Int) ≤ x := by have := HX0.out; omega
   have hx1 : x < 64 := by have := HX0.out; simp at h64; omega
   cases hk0 : (t.kind == 0)
   ·cases hk3 : (t.kind == 3)
    ·cases hk1 : (t.kind == 1)
     ·cases hk2 : (t.kind == 2)
      ·go_wp2
       go_ret;exact ⟨zfd (by rw [← HR.out]; simp at h64 h4 hk0 hk3 hk1 hk2; simp [h64,h4,hk0,hk3,hk1,hk2]),HB2.out⟩
      ·cases hw : (t.w == 32)
       ·go_wp2
        go_ret;exact ⟨zfd (by rw [← HR.out]; simp at h64 h4 hk0 hk3 hk1 hk2 hw; simp [h64,hk2,hw]),HB2.out⟩
       ·go_wp2
        go_ret;exact ⟨zfd (by rw [← HR.out]; simp at h64 h4 hk0 hk3 hk1 hk2 hw; simp [h64,hk2,hw]; try rfl),HB2.out⟩
     ·go_wp2
      go_ret;exact ⟨zfd (by rw [← HR.out]; simp at h64 h4 hk0 hk3 hk1; simp [h64,hk1]),HB2.out⟩
    ·go_wp2
     go_ret;exact ⟨zfd (by rw [← HR.out]; simp at h64 h4 hk0 hk3; simp [h64,hk3]),HB2.out⟩
   ·go_wp2
    go_ret;exact ⟨zfd (by rw [← HR.out]; simp at h64 h4 hk0; rw [zov (by have := HX0.out; omega) HU.out.1]; simp [h64,hk0]),HB2.out⟩
  ·go_wp2
   go_ret;exact ⟨zfd (by rw [← HR.out]; simp at h64 h4; simp [h4]),HB2.out⟩
 ·go_wp2
  go_ret;exact ⟨zfd (by rw [← HR.out]; simp at h64; simp [h64]),HB2.out⟩
theorem zau {x n : Int}(h : U64 n) : U64 (zao x n) := by
 unfold U64 at *;unfold zao
 split
 ·omega
 ·split
  ·omega
  ·split <;> omega
theorem zf1 (x k : Int)(hx : x = 32 ∨ x = 64)(w : World)(h : zam w base F g p)(hbase : base ≤ w.heap.size) :
  Calls prog 157 #[.agg #[.pointer (some ⟨g,0,none⟩)],.int .i8 x,.int .i64 k] w (zbT base g F w (zah p x k)) := by
 obtain ⟨t,ht⟩ : ∃ t,atP p.T k = t := ⟨_,rfl⟩;have htw : t.wf := by rw [← ht]; exact zba h.rng k
 have HE : Hid (zah p x k = if t.kind = 0 then putR p (zaf (zao x t.n)) else if x = 32 ∧ t.kind = 3 ∧ t.w = 32 then (p,t.a,0) else (p,k,0)) := Hd (by unfold zah; rw [ht])
 obtain ⟨r,hr⟩ : ∃ r,zah p x k = r := ⟨_,rfl⟩;rw [hr] at HE ⊢;have HT := Hd ht
 have HU := Hd (zau (x := x) htw.2.2.2.1)
 have hb0 : Below w.heap.size w (w.alloc (.cells #[.pointer (some ⟨g,0,none⟩)] 125)) := (Below.refl _ w).alloc (ztn _) _;have HP := Hd (PG.of_below h hb0)
 have HZ := Hd (Blk.new w 125 #[.pointer (some ⟨g,0,none⟩)])
 clear h hb0 ht htw hr;go_enter func157,ntmps157;go_wp2_with fail
 refine (zgK k _ HP.out.pool).mono ?_;rintro e w1 ⟨rfl,hb⟩;have HP1 := Hd (HP.out.step hb)
 have HZ1 := Hd (HZ.out.below hb HZ.out.lt)
 clear hb HP HZ;rw [HT.out];go_upto_region 2 with (first
  | (refine zag rfl 147 (.tmp 8) (.tmp 11) rfl _ t.cells (zaw t) (by rfl) (by rfl) rfl zcL rfl (TD.one _) ?_
     intro w5 G5 L5 Z5;have HX := Hd G5
     have HP2 := Hd (HP1.out.step L5)
     have HZ2 := Hd (HZ1.out.below L5 HZ1.out.lt)
     clear G5 L5 Z5)
  | fail)
 obtain ⟨b8,hb8⟩ : ∃ b,w1.heap.size = b := ⟨_,rfl⟩;rw [hb8] at HX ⊢;have c0 := HZ2.out.cell 0;have b0 := HX.out.cell 0;have b2 := HX.out.cell 2;have b3 := HX.out.cell 3;have b4 := HX.out.cell 4;simp [TD.cells] at b0 b2 b3 b4 c0;have hb5 : base ≤ w5.heap.size := zto hbase HP2.out.size
 cases hk0 : (t.kind == 0)
 ·cases hx32 : (x == 32)
  ·go_wp2
   go_ret2;rw [HE.out,if_neg (by simpa using hk0),if_neg (by simp at hx32; simp [hx32])];exact zbT.same HP2.out
  ·cases hk3 : (t.kind == 3)
   ·go_wp2
    go_ret2;rw [HE.out,if_neg (by simpa using hk0),if_neg (by simp at hk3; simp [hk3])];exact zbT.same HP2.out
   ·cases hw32 : (t.w == 32)
    ·go_wp2
     go_ret2;rw [HE.out,if_neg (by simpa using hk0),if_neg (by simp at hw32; simp [hw32])];exact zbT.same HP2.out
    ·go_wp2
     go_ret2;rw [HE.out,if_neg (by simpa using hk0),if_pos ⟨by simpa using hx32,by simpa using hk3,by simpa using hw32⟩];exact zbT.same HP2.out
 ·go_upto_region 3 with fail
  go_region_with (first
   | (go_at_call 97; refine (zbD _ _ _).mono ?_; rintro e w' ⟨rfl,rfl⟩)
   | (go_at_call 39; refine (zb1 _ HU.out _ (HP2.out.pool.drew) hb5).mono ?_; rintro e w' ⟨rfl,hr⟩))
  all_goals
   have HR := Hd hr
   clear hr;go_wp2;go_ret2;rw [HE.out,if_pos (by simpa using hk0)];exact zbT.from (HP2.out.step ((Below.refl _ _).drew)) ⟨rfl,HR.out⟩
end
end
end Go.Proofs.YtepagfkkjlbipaaGreat
