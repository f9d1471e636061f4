/-
  Parts of the proof of SymbcRuns. Conditions: those written in each statement.
-/
import Derived.Test.YtepagfkkjlbipaaGreatProg
import Derived.Test.YtepagfkkjlbipaaGreatKac
import Derived.Test.YtepagfkkjlbipaaGreatKac
import Derived.Test.YtepagfkkjlbipaaGreatKac
import Derived.Laws.Tables
import Derived.Laws.StructEq
import Derived.Deep.DeepCutAuto
import Derived.Deep.RegionWith
import Derived.Deep.RegionLaw
import Derived.Deep.CutBlock
set_option linter.unusedVariables false
set_option linter.unusedSimpArgs false
set_option maxHeartbeats 64000000
set_option maxRecDepth 100000
namespace Go.Proofs.YtepagfkkjlbipaaGreat
open Go.RowKit
open Tryz
section
open Go.Maps (Keyed)
structure Chg (F : Nat → Prop)(w w' : World) : Prop where
 os : w'.os = w.os
 tape : w'.tape = w.tape
 output : w'.output = w.output
 size : w.heap.size ≤ w'.heap.size
 block : ∀ k,k < w.heap.size → ¬ F k → w'.heap[k]? = w.heap[k]?
section
variable {F G : Nat → Prop}{w w' w'' : World}
theorem Chg.refl (F : Nat → Prop)(w : World) : Chg F w w := ⟨rfl,rfl,rfl,ztn _,fun _ _ _ => rfl⟩
theorem Chg.trans (h : Chg F w w')(k : Chg G w' w'')(hG : ∀ b,G b → F b ∨ w.heap.size ≤ b) : Chg F w w'' :=
 ⟨k.os.trans h.os,k.tape.trans h.tape,k.output.trans h.output,zto h.size k.size,fun i hi hF => (k.block i (zty hi h.size) (fun q => (hG i q).elim hF (fun e => by omega))).trans (h.block i hi hF)⟩
theorem Chg.of_grown {row : Option Nat}(h : w.grownBy w' row)(hr : ∀ g,row = some g → F g ∨ w.heap.size ≤ g) : Chg F w w' :=
 ⟨h.os,h.tape,h.output,h.size,fun i hi hF => h.block i hi (fun e => (hr i e.symm).elim hF (fun q => by omega))⟩
theorem Chg.of_below (h : Below w.heap.size w w') : Chg F w w' := ⟨h.os,h.tape,h.output,h.size,fun i hi _ => h.block i hi⟩
theorem Chg.below {B : Nat}(h : Chg F w w')(hF : ∀ b,F b → B ≤ b)(hB : B ≤ w.heap.size) : Below B w w' :=
 ⟨h.os,h.tape,h.output,h.size,fun i hi => h.block i (by omega) (fun q => by have := hF i q; omega)⟩
theorem Chg.mono (h : Chg F w w')(hF : ∀ b,F b → G b ∨ w.heap.size ≤ b) : Chg G w w' := ⟨h.os,h.tape,h.output,h.size,fun i hi hn => h.block i hi (fun q => (hF i q).elim hn (fun e => by omega))⟩
theorem Chg.blk {g : Nat}{t : TypeId}{cs : Array Value}(h : Chg F w w')(hb : Blk w g t cs)(hg : ¬ F g) : Blk w' g t cs := (h.block g hb.lt hg).trans hb
theorem zaG {base : Nat}{e : TypeId}{size n : Nat}{v : Value}{xs : List Value}(h : w.ownsRow base e size v n xs)(hb : ∀ g,v.ownBlock = some g → w'.heap[g]? = w.heap[g]?) : w'.ownsRow base e size v n xs := by
 refine ⟨h.1,?_⟩
 rcases h.2 with h | ⟨g,cap,cur,h1,h2,h3,h4⟩
 ·exact .inl h
 ·exact .inr ⟨g,cap,cur,h1,h2,by rw [hb g (by rw [h1]; rfl)]; exact h3,h4⟩
theorem zaQ {base : Nat}{e : TypeId}{size n : Nat}{v : Value}{xs : List Value}(h : w.ownsRow base e size v n xs) : ∀ g,v.ownBlock = some g → base ≤ g ∧ g < w.heap.size := (zbr.of_own h).ge
theorem Chg.own {base : Nat}{e : TypeId}{size n : Nat}{v : Value}{xs : List Value}(h : Chg F w w')(ho : w.ownsRow base e size v n xs)(hg : ∀ g,v.ownBlock = some g → ¬ F g) : w'.ownsRow base e size v n xs :=
 zaG ho fun g q => h.block g (zaQ ho g q).2 (hg g q)
theorem Chg.mapIs {κ : Type}{P : Program}{k : TypeId}{enc : κ → Value}{V : κ → Prop}{b n : Nat}{f : κ → Option Value}(h : Chg F w w')(hm : zaR P k enc V w b n f)(hg : ¬ F b) : zaR P k enc V w' b n f := hm.block_ (h.block b hm.lt hg)
theorem Chg.reads {B size n : Nat}{A : Option Addr}{xs : List Value}(h : Chg F w w')(hr : zaU w B size A n xs)(hB : B ≤ w.heap.size)(hF : ∀ b,F b → B ≤ b) : zaU w' B size A n xs :=
 hr.keep fun p hp => World.cell?_of_block (h.block p.block (by omega) (fun q => by have := hF _ q; omega))
end
/-! ### terms as keys -/
def TD.wf (x : TD) : Prop := I8 x.kind ∧ I8 x.op ∧ I8 x.w ∧ U64 x.n ∧ I64 x.a ∧ I64 x.b ∧ I64 x.c
theorem wf_u64 {x : Int}(h : U64 x) : (Lit.int .u64 x).wf = true := by unfold U64 at h; exact WalkArith.wf_u64 (by omega)
theorem TD.one (x : TD) : ∀ u ∈ x.cells,u.oneCell' = true := by
 intro v hv;unfold TD.cells at hv;simp only [ztM,zt5,or_false] at hv
 rcases hv with rfl | rfl | rfl | rfl | rfl | rfl | rfl <;> rfl
theorem TD.cells_inj {x y : TD}(h : x.cells = y.cells) : x = y := by
 unfold TD.cells at h;simp only [List.cons.injEq,Value.int.injEq,true_and,and_true] at h;obtain ⟨h0,h1,h2,h3,h4,h5,h6⟩ := h
 cases x
 cases y
 simp_all
def zaw (x : TD) : Value := .agg x.cells.toArray
theorem zm5 {x y : TD}(h : zaw x = zaw y) : x = y := by
 unfold zaw at h;injection h with h
 exact TD.cells_inj (by simpa using h)
theorem zoX : laidOutB prog = true := by kernel_rfl
theorem zr0 : Nat.ble 1 prog.types.size = true := by kernel_rfl
theorem zm6 : prog.cellsOf 30 = 1 := by kernel_rfl
theorem ziW : prog.cellsOf 3 = 1 := by kernel_rfl
theorem zr1 : prog.cellsOf 31 = 1 := by kernel_rfl
theorem ziX (x : TD)(h : x.wf) : ∃ l,keyOf prog 147 (zaw x) = some l := by
 obtain ⟨h0,h1,h2,h3,h4,h5,h6⟩ := h;refine zhL (cs := x.cells) underlying147 (by kernel_rfl) (by show _ = 7; kernel_rfl) (by kernel_rfl) zr0 ?_;intro f hf;simp at hf
 rcases hf with rfl | rfl | rfl | rfl | rfl | rfl | rfl
 ·exact ⟨.i8,x.kind,underlying30,zm6,rfl,wf_i8 h0⟩
 ·exact ⟨.i8,x.op,underlying30,zm6,rfl,wf_i8 h1⟩
 ·exact ⟨.i8,x.w,underlying30,zm6,rfl,wf_i8 h2⟩
 ·exact ⟨.u64,x.n,underlying31,zr1,rfl,wf_u64 h3⟩
 ·exact ⟨.i64,x.a,underlying3,ziW,rfl,wf_i64 h4⟩
 ·exact ⟨.i64,x.b,underlying3,ziW,rfl,wf_i64 h5⟩
 ·exact ⟨.i64,x.c,underlying3,ziW,rfl,wf_i64 h6⟩
theorem zr2 : zdt prog 147 zaw TD.wf where
 keyed := Keyed.of_law (deep_law_gate zoX (of_decide_eq_true (by kernel_rfl)) (of_decide_eq_true (by kernel_rfl)) (by kernel_rfl) (by kernel_rfl))
 reads := ziX
 inj := fun p q _ _ h => zm5 h
theorem zr3 : zdt prog 31 (Value.int .u64) U64 where
 keyed := Go.Maps.int_keyed underlying31
 reads := fun x h => ⟨_,Go.Maps.keyOf_int_mk underlying31 (wf_u64 h)⟩
 inj := fun p q _ _ h => by injection h
theorem zoY : zdt prog 3 (Value.int .i64) I64 where
 keyed := Go.Maps.int_keyed underlying3
 reads := fun x h => ⟨_,Go.Maps.keyOf_int_mk underlying3 (wf_i64 h)⟩
 inj := fun p q _ _ h => by injection h
/-! ### the two maps' contents -/
def ofF (T : List TD)(x : TD) : Option Value := (atT T x).map fun i => .int .i64 (i : Nat)
def wdF (T : List TD)(n : Int) : Option Value := (wideF T n).map (Value.int .i8)
theorem zqI {T : List TD}{t : TD}(h : atT T t = none)(x : TD) : ofF (T ++ [t]) x = zeC (ofF T) t (.int .i64 (T.length : Nat)) x := by
 unfold ofF zeC atT at *;rw [List.findIdx?_append]
 by_cases e : x = t
 ·subst e
  rw [if_pos rfl,h];simp
 ·rw [if_neg e]
  cases hx : T.findIdx? (fun y => decide (y = x)) with
  | some i => simp [hx]
  | none => simp [hx,List.findIdx?_cons,Ne.symm e]
theorem zoZ {T : List TD}{t : TD}(h : t.kind ≠ 1)(x : Int) : wdF (T ++ [t]) x = wdF T x := by
 unfold wdF wideF;rw [List.find?_append];have : ziT x t = false := by unfold ziT; simp [h]
 cases hx : T.find? (ziT x) with
 | some i => rfl
 | none => simp [this,hx]
theorem zqJ {T : List TD}{t : TD}(h : t.kind = 1)(hc : zaI T t = false)(x : Int) : wdF (T ++ [t]) x = zeC (wdF T) t.n (.int .i8 t.w) x := by
 unfold wdF zeC
 by_cases e : x = t.n
 ·subst e
  rw [if_pos rfl]
  cases hx : wideF T t.n with
  | some w =>
   rw [zoW (by rw [hx]; simp),hx];unfold zaI at hc;rw [hx,h] at hc;simp at hc;rw [hc]
   rfl
  | none =>
   rw [zm3 hx];have : ziT t.n t = true := by unfold ziT; simp [h]
   rw [this]
   rfl
 ·rw [if_neg e]
  unfold wideF;rw [List.find?_append];have : ziT x t = false := by unfold ziT; simp [Ne.symm e]
  cases hx : T.find? (ziT x) with
  | some i => simp [hx]
  | none => simp [this,hx]
structure zam (w : World)(base : Nat)(F : Nat → Prop)(g : Nat)(p : PS) : Prop where
 ex : ∃ ls ds o v,Blk w g 102 #[ls,ds,.map (some o),.map (some v)] ∧ w.ownsRow base 147 7 ls p.T.length (p.T.flatMap TD.cells) ∧ w.ownsRow base 3 1 ds p.T.length (p.D.map (Value.int .i64)) ∧
  zaR prog 147 zaw TD.wf w o p.T.length (ofF p.T) ∧ zaR prog 31 (Value.int .u64) U64 w v p.T.length (wdF p.T) ∧ zc3 w o ∧ o ≠ v ∧ F g ∧ F o ∧ F v ∧ (∀ b,ls.ownBlock = some b → F b) ∧ (∀ b,ds.ownBlock = some b → F b)
 wf : WfP p
 rng : ∀ t ∈ p.T,t.wf
 fb : ∀ b,F b → base ≤ b ∧ b < w.heap.size
section
variable {w w' : World}{base g : Nat}{F G : Nat → Prop}{p : PS}
theorem zam.chg (h : zam w base F g p)(hc : Chg G w w')(hd : ∀ b,F b → ¬ G b) : zam w' base F g p := by
 obtain ⟨ls,ds,o,v,h1,h2,h3,h4,h5,h6,hov,f1,f2,f3,f4,f5⟩ := h.ex;exact ⟨⟨ls,ds,o,v,hc.blk h1 (hd _ f1),hc.own h2 (fun b q => hd _ (f4 b q)),hc.own h3 (fun b q => hd _ (f5 b q)),hc.mapIs h4 (hd _ f2),hc.mapIs h5 (hd _ f3),h6.block_ (hc.block o h4.lt (hd _ f2)),hov,f1,f2,f3,f4,f5⟩,h.wf,h.rng,fun b q => ⟨(h.fb b q).1,zty (h.fb b q).2 hc.size⟩⟩
theorem zam.below (h : zam w base F g p)(hb : Below w.heap.size w w') : zam w' base F g p := h.chg (G := fun _ => False) (.of_below hb) (fun _ _ q => q)
theorem zam.view (h : zam w base F g p) : ∃ A c D d,w.cell? ⟨g,0,none⟩ = some (.slice A p.T.length c) ∧ p.T.length ≤ c ∧ zaU w w.heap.size 7 A p.T.length (p.T.flatMap TD.cells) ∧
  w.cell? ⟨g,1,none⟩ = some (.slice D p.T.length d) ∧ p.T.length ≤ d ∧ zaU w w.heap.size 1 D p.T.length (p.D.map (Value.int .i64)) := by
 obtain ⟨ls,ds,o,v,h1,h2,h3,_⟩ := h.ex;obtain ⟨A,c,rfl,h4,h5⟩ := (zbr.of_own h2).slice;obtain ⟨D,d,rfl,h6,h7⟩ := (zbr.of_own h3).slice;exact ⟨A,c,D,d,h1.cell 0,h4,h5,h1.cell 1,h6,h7⟩
theorem zam.few (h : zam w base F g p) : p.T.length ≤ 4000 := h.wf.few
theorem zam.at_ (h : zam w base F g p){k : Nat}(hk : k < p.T.length) : ∃ ad c dd d t x,w.cell? ⟨g,0,none⟩ = some (.slice (some ad) p.T.length c) ∧ p.T.length ≤ c ∧ w.cell? ⟨g,1,none⟩ = some (.slice (some dd) p.T.length d) ∧ p.T.length ≤ d ∧ ad.block < w.heap.size ∧ dd.block < w.heap.size ∧
  p.T[k]? = some t ∧ p.D[k]? = some x ∧ t.wf ∧ 1 ≤ x ∧ x ≤ 256 ∧ (∀ j u,t.cells[j]? = some u → w.cell? ((ad.add (k * 7)).add j) = some u) ∧ w.cell? (dd.add k) = some (.int .i64 x) := by
 obtain ⟨A,c,D,d,h1,h2,h3,h4,h5,h6⟩ := h.view;obtain ⟨ad,rfl,hb,hc⟩ := h3.2 (by omega);obtain ⟨dd,u,rfl,hb2,hu,hc2⟩ := h6.at_ hk;have hx : p.D[k]? = some (p.D[k]'(by rw [h.wf.len]; exact hk)) := ztq _;have ht : p.T[k]? = some p.T[k] := ztq hk;rw [ztw,hx] at hu;injection hu with hu
 subst hu;have hl := h.wf.low _ (ztv hx);refine ⟨ad,c,dd,d,_,_,h1,h2,h4,h5,hb,hb2,ht,hx,h.rng _ (ztv ht),hl.1,hl.2,fun j u hu => ?_,hc2⟩;rw [za0];exact hc _ u (ze7 TD.cells 7 p.T (fun _ _ => rfl) k j _ u ht hu)
theorem zam.drew (h : zam w base F g p) : zam w.drew base F g p := h.below ((Below.refl _ _).drew)
end
end
section
section
variable {P : Program}
theorem zdV {ops : Array Oper}{rest : List Oper}{o : Oper}{a : Act}{W : World}{Q : Act → Prop}(hgd : o.guard = none)(ty : TypeId)(x : Operand)(ho : o.op = .load ty x)
  (ad : Addr) (hx : a.eval x = .pointer (some ad)) (cs : List Value) (d : TypeDesc) (hc : ∀ j u,cs[j]? = some u → W.cell? (ad.add j) = some u)
  (hu : P.underlying ty = some d) (hd : zfT d = true) (hi : (P.info? ty).map (·.size) = some cs.length)
  (h : wpQuiet P ops (fun w' => ∃ n,w' = W.drewN n) Q rest (a.put o.dst (.agg cs.toArray))) : wpQuiet P ops (fun w' => ∃ n,w' = W.drewN n) Q (o :: rest) a := by
 have hw : Region.wanted o (yielded ops a.tmps) = true := by simp [Region.wanted,hgd]
 unfold wpQuiet;rw [if_pos hw];refine ⟨.agg cs.toArray,?_,h⟩;rintro w ⟨n,rfl⟩;unfold Oper.quietAt execOp;simp only [ho,hx,Instr.loadAt,Instr.sureAddr,Sem.run_bind,Sem.run_pure,Result.andThen_ok,zaC (P := P) (W.drewN n) ad ty cs d hc hu hd hi];exact ⟨rfl,rfl⟩
end
end
section
theorem zgi (x : Int)(w : World) : Calls prog 137 #[.int .i8 x] w fun e w' => e = .returned (.bool (wdB x)) ∧ w = w' := by
 cases h8 : (x == 8)
 ·cases h16 : (x == 16)
  ·cases h32 : (x == 32)
   ·cases h64 : (x == 64)
    all_goals
     go_enter func137,ntmps137;go_wp2;go_ret;exact ⟨by unfold wdB; simp [h8,h16,h32,h64],rfl⟩
   ·go_enter func137,ntmps137
    go_wp2;go_ret;exact ⟨by unfold wdB; simp [h8,h16,h32],rfl⟩
  ·go_enter func137,ntmps137
   go_wp2;go_ret;exact ⟨by unfold wdB; simp [h8,h16],rfl⟩
 ·go_enter func137,ntmps137
  go_wp2;go_ret;exact ⟨by unfold wdB; simp [h8],rfl⟩
section
variable {w : World}{base g : Nat}{F : Nat → Prop}{p : PS}
theorem ziY (k : Int)(h : zam w base F g p) : Calls prog 106 #[.pointer (some ⟨g,0,none⟩),.int .i64 k] w fun e w' => e = .returned (.bool (zal p.T k)) ∧ w = w' := by
 obtain ⟨A,c,D,d,h1,h2,_,h4,h5,_⟩ := h.view;have hf := h.few;obtain ⟨n,hn⟩ : ∃ n,p.T.length = n := ⟨_,rfl⟩;have HB := Hd (show zal p.T k = (decide (0 ≤ k) && decide (k < (n : Int))) by unfold zal; rw [hn])
 rw [hn] at h1 h2 hf;clear hn h h4 h5
 cases hk : decide (0 ≤ k)
 ·have hk2 : decide (k < 0) = true := by simp at hk ⊢; omega
  go_enter func106,ntmps106;go_wp2;go_ret;exact ⟨by rw [HB.out,hk]; rfl,rfl⟩
 ·go_enter func106,ntmps106
  go_wp2;go_ret;exact ⟨by rw [HB.out,hk]; rfl,rfl⟩
theorem zqK (h : zam w base F g p) : Calls prog 42 #[.pointer (some ⟨g,0,none⟩)] w fun e w' => e = .returned (.int .i64 (p.T.length : Nat)) ∧ w = w' := by
 obtain ⟨A,c,D,d,h1,h2,_,h4,h5,_⟩ := h.view;obtain ⟨n,hn⟩ : ∃ n,p.T.length = n := ⟨_,rfl⟩;rw [hn] at h1 h2 ⊢;clear hn h h4 h5;go_enter func42,ntmps42;go_wp2;go_ret;exact ⟨rfl,rfl⟩
def zbi : TD := ⟨0,0,0,0,0,0,0⟩
theorem zo0 {k : Int}(h : zam w base F g p)(hk : zal p.T k = false) : Calls prog 95 #[.pointer (some ⟨g,0,none⟩),.int .i64 k] w fun e w' => e = .returned (.tuple #[zaw zbi,.int .i64 2]) ∧ Below w.heap.size w w' := by
 have H := Hd h
 have HH := Hd hk
 clear h hk;go_enter func95,ntmps95;go_wp2_with fail
 refine (ziY k (H.out.below ((Below.refl _ _).alloc (ztn _) _))).mono ?_;rintro e w' ⟨rfl,rfl⟩;rw [HH.out];go_wp2;exact bodyPost_ret (v := .tuple #[zaw zbi,.int .i64 2]) (by simp [results,results95,go_sem,zaw,zbi,TD.cells]) rfl ⟨rfl,(Below.refl _ _).alloc (ztn _) _⟩
end
theorem zcL : (prog.info? 147).map (·.size) = some 7 := by kernel_rfl
theorem lT {ops : Array Oper}{rest : List Oper}{o : Oper}{a : Act}{w : World}{Q : Exit → Act → World → Prop}(k : Nat)(t : TD){b : Nat}(hb : Blk w b 147 t.cells.toArray)
  (h : wpList prog ops Q rest (a.put o.dst (.agg t.cells.toArray)) w) (hg : o.guard = none := by rfl) (ho : o.op = .load 147 (.tmp k) := by rfl) (hx : a.eval (.tmp k) = .pointer (some ⟨b,0,none⟩) := by rfl) : wpList prog ops Q (o :: rest) a w :=
 zae hg 147 (.tmp k) ho _ hx t.cells _ (zak hb) underlying147 rfl zcL h
abbrev TD.lit (t : TD) : List Value := [.int .i8 t.kind,.int .i8 t.op,.int .i8 t.w,.int .u64 t.n,.int .i64 t.a,.int .i64 t.b,.int .i64 t.c]
section
variable {w : World}{base g : Nat}{F : Nat → Prop}{p : PS}
theorem zqL {k : Nat}{t : TD}(h : zam w base F g p)(ht : p.T[k]? = some t) : Calls prog 95 #[.pointer (some ⟨g,0,none⟩),.int .i64 k] w fun e w' => e = .returned (.tuple #[zaw t,.int .i64 0]) ∧ Below w.heap.size w w' := by
 have hk : k < p.T.length := (ztt.1 ht).1;have H1 := h.below ((Below.refl _ _).alloc (ztn _) (.cells #[.int .i8 0,.int .i8 0,.int .i8 0,.int .u64 0,.int .i64 0,.int .i64 0,.int .i64 0] 147));obtain ⟨ad,c,dd,d,t',x',h1,h2,_,_,_,_,ht',_,_,_,_,hc,_⟩ := H1.at_ hk;obtain rfl : t = t' := by rw [ht] at ht'; exact Option.some.inj ht'
 have H := Hd H1
 have hh : zal p.T k = true := by unfold zal; simp; exact hk
 have HH := Hd hh
 have hf := h.few;obtain ⟨n,hn⟩ : ∃ n,p.T.length = n := ⟨_,rfl⟩;rw [hn] at h1 h2 hk hf;have HC := Hd hc
 clear hn h ht' ht hh H1 hc;have hkd : k < c := by omega
 go_enter func95,ntmps95;go_wp2_with fail
 refine (ziY k H.out).mono ?_;rintro e w' ⟨rfl,rfl⟩;rw [HH.out];go_wp2_with (first
  | (refine zae rfl 147 (.tmp 21) rfl (ad.add (k * 7)) (by rfl) t.lit _ HC.out underlying147 rfl zcL ?_)
  | fail)
 exact bodyPost_ret (v := .tuple #[zaw t,.int .i64 0]) (by simp [results,results95,go_sem,zaw,TD.cells]) rfl ⟨rfl,((Below.refl _ _).alloc (ztn _) _)⟩
end
theorem zkV (a b : Option Nat)(w : World) : (Instr.build 102 #[(2,.map a),(3,.map b)]).run prog w = .ok (.agg #[.slice none 0 0,.slice none 0 0,.map a,.map b]) w := run_build w 102 _ _ (by kernel_rfl)
theorem zo1 (w : World) : zam (((w.alloc (.map #[] 0)).alloc (.map #[] 0)).alloc (.cells #[.slice none 0 0,.slice none 0 0,.map (some w.heap.size),.map (some (w.heap.size + 1))] 102)) w.heap.size (fun b => w.heap.size ≤ b ∧ b < w.heap.size + 3) (w.heap.size + 2) ⟨[],[]⟩ := by
 have e1 : (w.alloc (.map #[] 0)).heap.size = w.heap.size + 1 := by simp
 have e2 : ((w.alloc (.map #[] 0)).alloc (.map #[] 0)).heap.size = w.heap.size + 2 := by simp
 have m1 : zaR prog 147 zaw TD.wf (w.alloc (.map #[] 0)) w.heap.size 0 (fun _ => none) := zaR.new w;have m2 : zaR prog 31 (Value.int .u64) U64 ((w.alloc (.map #[] 0)).alloc (.map #[] 0)) (w.heap.size + 1) 0 (fun _ => none) := by
  have := zaR.new (P := prog) (k := 31) (enc := Value.int .u64) (V := U64) (w.alloc (.map #[] 0));rw [e1] at this;exact this
 have b3 := Blk.new ((w.alloc (.map #[] 0)).alloc (.map #[] 0)) 102 #[.slice none 0 0,.slice none 0 0,.map (some w.heap.size),.map (some (w.heap.size + 1))];rw [e2] at b3;have s1 := zc3.new w;refine ⟨⟨.slice none 0 0,.slice none 0 0,w.heap.size,w.heap.size + 1,b3,⟨rfl,.inl ⟨rfl,rfl⟩⟩,⟨rfl,.inl ⟨rfl,rfl⟩⟩,(m1.alloc _).alloc _,m2.alloc _,?_,by omega,?_,?_,?_,?_,?_⟩,WfP.nil,by simp,fun b hb => by simp; omega⟩
 ·exact s1.block_ (by rw [Below.heap_alloc _ _ _ (by simp; omega),Below.heap_alloc _ _ _ (by simp)])
 ·omega
 ·omega
 ·omega
 ·intro b hb; simp [Value.ownBlock] at hb
 ·intro b hb; simp [Value.ownBlock] at hb
theorem zm7 (w : World) : Calls prog 11 #[] w fun e w' => ∃ g F,e = .returned (.pointer (some ⟨g,0,none⟩)) ∧ zam w' w.heap.size F g ⟨[],[]⟩ ∧ Below w.heap.size w w' := by
 have hbd := fun (a b : Option Nat) (w : World) => zkV a b w
 have hm1 : ∀ w : World,(Instr.makeMap 98 none).run prog w = .ok (.map (some w.heap.size)) (w.alloc (.map #[] 0)) := fun _ => rfl
 have hm2 : ∀ w : World,(Instr.makeMap 99 none).run prog w = .ok (.map (some w.heap.size)) (w.alloc (.map #[] 0)) := fun _ => rfl
 go_enter func11,ntmps11;go_wp2;go_ret;refine ⟨w.heap.size + 2,_,?_,zo1 w,(((Below.refl _ _).alloc (ztn _) _).alloc (by simp) _).alloc (by simp; omega) _⟩
 rfl
end
section
theorem zr4 : zcy prog 4 147 = some [some .i8,some .i8,some .i8,some .u64,some .i64,some .i64,some .i64] := by kernel_rfl
theorem okTm : zm9 prog 4 147 = true := by kernel_rfl
theorem ztg : zkX prog 147 = true := by kernel_rfl
theorem zj0 {x : TD}(h : x.wf) : zdb [some .i8,some .i8,some .i8,some .u64,some .i64,some .i64,some .i64] x.cells := by
 obtain ⟨h0,h1,h2,h3,h4,h5,h6⟩ := h;refine ⟨rfl,fun i k v hk hv => ?_⟩
 match i with
 | 0 => simp [TD.cells] at hk hv; subst hk hv; exact ⟨_,rfl,wf_i8 h0⟩
 | 1 => simp [TD.cells] at hk hv; subst hk hv; exact ⟨_,rfl,wf_i8 h1⟩
 | 2 => simp [TD.cells] at hk hv; subst hk hv; exact ⟨_,rfl,wf_i8 h2⟩
 | 3 => simp [TD.cells] at hk hv; subst hk hv; exact ⟨_,rfl,wf_u64 h3⟩
 | 4 => simp [TD.cells] at hk hv; subst hk hv; exact ⟨_,rfl,wf_i64 h4⟩
 | 5 => simp [TD.cells] at hk hv; subst hk hv; exact ⟨_,rfl,wf_i64 h5⟩
 | 6 => simp [TD.cells] at hk hv; subst hk hv; exact ⟨_,rfl,wf_i64 h6⟩
 | i + 7 => simp at hk
theorem zr5 {x y : TD}(hx : x.wf)(hy : y.wf) : eqL x.cells y.cells = decide (x = y) := by
 have := zi0 _ _ _ (zj0 hx) (zj0 hy);rw [Bool.eq_iff_iff,this];simp only [decide_eq_true_eq];exact ⟨TD.cells_inj,fun h => by rw [h]⟩
theorem zfg {x y : TD}(hx : x.wf)(hy : y.wf)(w : World) : (binOp .eql 147 (.agg x.cells.toArray) (.agg y.cells.toArray)).run prog w = .ok (.bool (decide (x = y))) w := by
 rw [zfi (by omega) zr4 okTm ztg (zj0 hx) (zj0 hy) w,zr5 hx hy]
theorem zqM {x y : TD}(hx : x.wf)(hy : y.wf)(p q : Operand)(w : World) : (do eqGuard .eql 147 p q (.agg x.cells.toArray) (.agg y.cells.toArray); binOp .eql 147 (.agg x.cells.toArray) (.agg y.cells.toArray) : Sem Value).run prog w = .ok (.bool (decide (x = y))) w := by
 have := zfg hx hy w;simp only [Sem.run_bind];rw [show (eqGuard .eql 147 p q (.agg x.cells.toArray) (.agg y.cells.toArray)).run prog w = .ok () w from run_eqGuard_agg (w := w) .eql 147 p q _ _ eqGuardType147];exact this
end
section
def sL : List Value → Nat → Value → List Value
 | [],_,_ => []
 | _ :: r,0,v => v :: r
 | x :: r,k + 1,v => x :: sL r k v
theorem zpO : ∀ (l : List Value) (k : Nat) (v : Value),l.set k v = sL l k v
 | [],_,_ => rfl
 | _ :: _,0,_ => rfl
 | _ :: r,k + 1,v => congrArg _ (zpO r k v)
theorem pt (l : List Value)(ds : List Deferred)(t : Nat)(v : Value) : Act.put ⟨l.toArray,ds⟩ (some t) v = ⟨(sL l t v).toArray,ds⟩ := by
 unfold Act.put;rw [← zpO];simp
theorem pn (a : Act)(v : Value) : a.put none v = a := rfl
section
variable {P : Program}{ops : Array Oper}{Q : Exit → Act → World → Prop}{md : Region.Mode}{T S : World → Prop}{late : List Nat}{fuel : Nat}{listed : Array Bool}{ts ts' : List Value}{ds : List Deferred}{w : World}{t : Nat}
theorem ea (i : Nat)(v : Value){op : Op}(hy : ∀ o : Oper,o.op = op → ∀ w,SS T S false w → (execOp (Act.eval ⟨ts.toArray,ds⟩) o).run P w = .ok (.value v) w)(hS : St T S late listed w)(h : zas P md ops Q T S late fuel (listed.setIfInBounds i true) ⟨ts'.toArray,ds⟩ w)(ho : zc6 ops i = some (some t,op) := by rfl)(hc : zbv md ops late listed i false = true := by kernel_rfl)(hw : zaS ops i ⟨ts.toArray,ds⟩ = some true := by rfl)(hQ : ∀ c (a : Act) w,Q (.panic c) (a.put (some t) v) w → Q (.panic c) a w := by exact fun _ _ _ h => h)(hs : sL ts t v = ts' := by (simp only [sL]; rfl)) :
  zas P md ops Q T S late (fuel + 1) listed ⟨ts.toArray,ds⟩ w := zd8 false i _ op v ho hc hw hQ hy hS (by rw [pt,hs]; exact h)
theorem eg (i : Nat)(v : Value){op : Op}(hS : St T S late listed w)(h : zas P md ops Q T S late fuel (listed.setIfInBounds i true) ⟨ts'.toArray,ds⟩ w)(ho : zc6 ops i = some (some t,op) := by rfl)(hc : zbv md ops late listed i false = true := by kernel_rfl)(hw : zaS ops i ⟨ts.toArray,ds⟩ = some true := by rfl)(hQ : ∀ c (a : Act) w,Q (.panic c) (a.put (some t) v) w → Q (.panic c) a w := by exact fun _ _ _ h => h)
  (hy : ∀ o : Oper,o.op = op → ∀ w,SS T S false w → (execOp (Act.eval ⟨ts.toArray,ds⟩) o).run P w = .ok (.value v) w := by (intro o e w _; unfold execOp; simp only [e]; go_simp <;> fail)) (hs : sL ts t v = ts' := by (simp only [sL]; rfl)) :
  zas P md ops Q T S late (fuel + 1) listed ⟨ts.toArray,ds⟩ w := zd8 false i _ op v ho hc hw hQ hy hS (by rw [pt,hs]; exact h)
theorem en (i : Nat){op : Op}(hS : St T S late listed w)(h : zas P md ops Q T S late fuel (listed.setIfInBounds i true) ⟨ts'.toArray,ds⟩ w)(ho : zc6 ops i = some (some t,op) := by rfl)(hc : zbv md ops late listed i false = true := by kernel_rfl)(hw : zaS ops i ⟨ts.toArray,ds⟩ = some false := by rfl)(hQ : ∀ c (a : Act) w,Q (.panic c) (a.put (some t) undef) w → Q (.panic c) a w := by exact fun _ _ _ h => h)(hs : sL ts t undef = ts' := by (simp only [sL]; rfl)) :
  zas P md ops Q T S late (fuel + 1) listed ⟨ts.toArray,ds⟩ w := zs1 i _ op ho hc hw hQ hS (by rw [pt,hs]; exact h)
theorem em (i : Nat)(v : Value){x : Operand}(hS : St T S late listed w)(h : zas P md ops Q T S late fuel (listed.setIfInBounds i true) ⟨ts'.toArray,ds⟩ w)(ho : zc6 ops i = some (some t,.move x) := by rfl)(hc : zbv md ops late listed i false = true := by kernel_rfl)(hw : zaS ops i ⟨ts.toArray,ds⟩ = some true := by rfl)(hQ : ∀ c (a : Act) w,Q (.panic c) (a.put (some t) v) w → Q (.panic c) a w := by exact fun _ _ _ h => h)
  (hx : Act.eval ⟨ts.toArray,ds⟩ x = v := by rfl) (hs : sL ts t v = ts' := by (simp only [sL]; rfl)) : zas P md ops Q T S late (fuel + 1) listed ⟨ts.toArray,ds⟩ w := zrv i _ x v ho hc hw hQ hx hS (by rw [pt,hs]; exact h)
theorem ep (i : Nat)(b : Bool)(v : Value){c x y : Operand}(hS : St T S late listed w)(h : zas P md ops Q T S late fuel (listed.setIfInBounds i true) ⟨ts'.toArray,ds⟩ w)(ho : zc6 ops i = some (some t,.pick c x y) := by rfl)(hc : zbv md ops late listed i false = true := by kernel_rfl)(hw : zaS ops i ⟨ts.toArray,ds⟩ = some true := by rfl)(hQ : ∀ c (a : Act) w,Q (.panic c) (a.put (some t) v) w → Q (.panic c) a w := by exact fun _ _ _ h => h)
  (hb : Act.eval ⟨ts.toArray,ds⟩ c = .bool b := by rfl) (hv : (if b then Act.eval ⟨ts.toArray,ds⟩ x else Act.eval ⟨ts.toArray,ds⟩ y) = v := by rfl) (hs : sL ts t v = ts' := by (simp only [sL]; rfl)) : zas P md ops Q T S late (fuel + 1) listed ⟨ts.toArray,ds⟩ w := zl1 i _ c x y b v ho hc hw hQ hb hv hS (by rw [pt,hs]; exact h)
theorem ez (i : Nat)(ad : Addr){x : Operand}(hS : St T S late listed w)(h : zas P md ops Q T S late fuel (listed.setIfInBounds i true) ⟨ts'.toArray,ds⟩ w)(ho : zc6 ops i = some (some t,.nilCheck x) := by rfl)(hc : zbv md ops late listed i false = true := by kernel_rfl)(hw : zaS ops i ⟨ts.toArray,ds⟩ = some true := by rfl)(hQ : ∀ c (a : Act) w,Q (.panic c) (a.put (some t) (.pointer (some ad))) w → Q (.panic c) a w := by exact fun _ _ _ h => h)
  (hx : Act.eval ⟨ts.toArray,ds⟩ x = .pointer (some ad) := by rfl) (hs : sL ts t (.pointer (some ad)) = ts' := by (simp only [sL]; rfl)) : zas P md ops Q T S late (fuel + 1) listed ⟨ts.toArray,ds⟩ w := zs2 i _ x ad ho hc hw hQ hx hS (by rw [pt,hs]; exact h)
theorem ef (i : Nat)(ad ad' : Addr){st : TypeId}{x : Operand}{f : Nat}(hS : St T S late listed w)(h : zas P md ops Q T S late fuel (listed.setIfInBounds i true) ⟨ts'.toArray,ds⟩ w)(ho : zc6 ops i = some (some t,.fieldAddr st x f) := by rfl)(hc : zbv md ops late listed i false = true := by kernel_rfl)(hw : zaS ops i ⟨ts.toArray,ds⟩ = some true := by rfl)(hQ : ∀ c (a : Act) w,Q (.panic c) (a.put (some t) (.pointer (some ad'))) w → Q (.panic c) a w := by exact fun _ _ _ h => h)
  (hx : Act.eval ⟨ts.toArray,ds⟩ x = .pointer (some ad) := by rfl) (hr : ∀ w,(Instr.fieldAt st (.pointer (some ad)) f).run P w = .ok (.pointer (some ad')) w := by exact fun w => by kernel_rfl) (hs : sL ts t (.pointer (some ad')) = ts' := by (simp only [sL]; rfl)) : zas P md ops Q T S late (fuel + 1) listed ⟨ts.toArray,ds⟩ w := zdW i _ st x f ad ad' ho hc hw hQ hx hr hS (by rw [pt,hs]; exact h)
theorem el (b : Bool)(i : Nat)(ad : Addr)(v : Value){ty : TypeId}{d : TypeDesc}{x : Operand}(hu : P.underlying ty = some d)(hl : ∀ w,SS T S b w → w.cell? ad = some v)(hS : St T S late listed w)(h : zas P md ops Q T S late fuel (listed.setIfInBounds i true) ⟨ts'.toArray,ds⟩ w)(ho : zc6 ops i = some (some t,.load ty x) := by rfl)(hc : zbv md ops late listed i b = true := by kernel_rfl)(hw : zaS ops i ⟨ts.toArray,ds⟩ = some true := by rfl)(hQ : ∀ c (a : Act) w,Q (.panic c) (a.put (some t) v) w → Q (.panic c) a w := by exact fun _ _ _ h => h)
  (hx : Act.eval ⟨ts.toArray,ds⟩ x = .pointer (some ad) := by rfl) (hd : zfT d = false := by rfl) (hs : sL ts t v = ts' := by (simp only [sL]; rfl)) : zas P md ops Q T S late (fuel + 1) listed ⟨ts.toArray,ds⟩ w := zqP b i _ ty x ad v ho hc hw hQ hx (fun w hS => zgl _ _ _ _ hu hd (hl w hS)) hS (by rw [pt,hs]; exact h)
theorem eL (b : Bool)(i : Nat)(ad : Addr)(cs : List Value){ty : TypeId}{d : TypeDesc}{x : Operand}(hl : ∀ w,SS T S b w → ∀ j u,cs[j]? = some u → w.cell? (ad.add j) = some u)(hu : P.underlying ty = some d)(hi : (P.info? ty).map (·.size) = some cs.length)(hS : St T S late listed w)(h : zas P md ops Q T S late fuel (listed.setIfInBounds i true) ⟨ts'.toArray,ds⟩ w)(ho : zc6 ops i = some (some t,.load ty x) := by rfl)(hc : zbv md ops late listed i b = true := by kernel_rfl)(hw : zaS ops i ⟨ts.toArray,ds⟩ = some true := by rfl)(hQ : ∀ c (u : Act) w,Q (.panic c) (u.put (some t) (.agg cs.toArray)) w → Q (.panic c) u w := by exact fun _ _ _ h => h)
  (hx : Act.eval ⟨ts.toArray,ds⟩ x = .pointer (some ad) := by rfl) (hd : zfT d = true := by rfl) (hs : sL ts t (.agg cs.toArray) = ts' := by (simp only [sL]; rfl)) : zas P md ops Q T S late (fuel + 1) listed ⟨ts.toArray,ds⟩ w := zsc b i _ ty x ad cs d ho hc hw hQ hx hl hu hd hi hS (by rw [pt,hs]; exact h)
theorem ex (i : Nat)(vx vy v : Value){ty : TypeId}{x y : Operand}(hr : ∀ w,(Instr.indexAt ty vx vy).run P w = .ok v w)(hS : St T S late listed w)(h : zas P md ops Q T S late fuel (listed.setIfInBounds i true) ⟨ts'.toArray,ds⟩ w)(ho : zc6 ops i = some (some t,.indexAddr ty x y) := by rfl)(hc : zbv md ops late listed i false = true := by kernel_rfl)(hw : zaS ops i ⟨ts.toArray,ds⟩ = some true := by rfl)(hQ : ∀ c (a : Act) w,Q (.panic c) (a.put (some t) v) w → Q (.panic c) a w := by exact fun _ _ _ h => h)
  (hx : Act.eval ⟨ts.toArray,ds⟩ x = vx := by rfl) (hy : Act.eval ⟨ts.toArray,ds⟩ y = vy := by rfl) (hs : sL ts t v = ts' := by (simp only [sL]; rfl)) : zas P md ops Q T S late (fuel + 1) listed ⟨ts.toArray,ds⟩ w := zd8 false i _ _ v ho hc hw hQ (fun o e w _ => by
  unfold execOp;simp only [e,hx,hy,Sem.run_bind,hr,Result.andThen_ok,Sem.run_pure]) hS (by rw [pt,hs]; exact h)
theorem eS (i : Nat)(v : Value){x : Operand}(hS : St T S late (listed.setIfInBounds i true) w)(h : zas P md ops Q T S late fuel (listed.setIfInBounds i true) ⟨ts'.toArray,ds⟩ w)(hr : Region.ready md ops listed = [i] := by kernel_rfl)(ho : zc6 ops i = some (some t,.assign x) := by rfl)
    (hw : zaS ops i ⟨ts.toArray,ds⟩ = some true := by rfl) (hx : Act.eval ⟨ts.toArray,ds⟩ x = v := by rfl) (hs : sL ts t v = ts' := by (simp only [sL]; rfl)) : zas P md ops Q T S late (fuel + 1) listed ⟨ts.toArray,ds⟩ w := zaN i hr (zar.assign i _ x v ho hw hx hS (by rw [pt,hs]; exact h))
theorem eo (i : Nat){op : Op}{d : Option Tmp}{a : Act}(h : ∀ (o : Oper) (K : Act → World → Prop),o.dst = d → o.op = op → (∀ a w,St T S late (listed.setIfInBounds i true) w → zas P md ops Q T S late fuel (listed.setIfInBounds i true) a w → K a w) → Oper.wp P o a w K Q)
    (hr : Region.ready md ops listed = [i] := by kernel_rfl) (ho : zc6 ops i = some (d,op) := by rfl) (hw : zaS ops i a = some true := by rfl) : zas P md ops Q T S late (fuel + 1) listed a w := zaN i hr (zar.of i d op ho hw h)
def Up (P : Program)(ops : Array Oper)(Q : Exit → Act → World → Prop)(md : Region.Mode)(T S : World → Prop)(late : List Nat)(fuel : Nat)(listed : Array Bool)(a : Act)(d : Option Tmp) : Ending → World → Prop
 | .returned v,w => St T S late listed w ∧ zas P md ops Q T S late fuel listed (a.put d v) w
 | _,_ => False
theorem ec (i : Nat){f : FuncId}{args : Array Value}{R : Ending → World → Prop}{op : Op}{d : Option Tmp}{a : Act}(hc : Calls P f args w R)(h : ∀ e w',R e w' → Up P ops Q md T S late fuel (listed.setIfInBounds i true) a d e w')(hr : Region.ready md ops listed = [i] := by kernel_rfl)(ho : zc6 ops i = some (d,op) := by rfl)(hw : zaS ops i a = some true := by rfl)
  (he : ∀ (o : Oper) (X : Result Next → Prop),o.op = op → X (.ok (.enter f args) w) → X ((execOp a.eval o).run P w) := by (intro o X e h; unfold execOp; simp only [e]; go_simp; exact h)) : zas P md ops Q T S late (fuel + 1) listed a w :=
 eo i (fun o K h2 h3 hKK => by
  unfold Oper.wp;refine he o (o.upon P a K Q) h3 ?_;rw [Oper.upon_enter];refine hc.mono fun e w' hR => ?_
  have := h e w' hR
  cases e with
  | returned v => exact hKK _ _ this.1 (h2 ▸ this.2)
  | panicked c => exact this.elim
  | outgrown => exact this.elim) hr ho hw
theorem ek {v : Value}(hS : St T S late listed w)(h : zas P md ops Q T S late fuel listed ⟨ts'.toArray,ds⟩ w)(hs : sL ts t v = ts' := by (simp only [sL]; rfl)) : Up P ops Q md T S late fuel listed ⟨ts.toArray,ds⟩ (some t) (.returned v) w := ⟨hS,by rw [pt,hs]; exact h⟩
end
end
section
section
variable {κ : Type}{P : Program}{k : TypeId}{enc : κ → Value}{V : κ → Prop}{b n : Nat}{f : κ → Option Value}
theorem zfh {ops : Array Oper}{rest : List Oper}{o : Oper}{a : Act}{W : World}{Q : Act → Prop}(hgd : o.guard = none)(m y : Operand)(t : TypeId)(hop : o.op = .lookup t m y true)(e : TypeId)(E : zdt P k enc V)(ht : P.underlying t = some (.map k e))(z : Value)
  (hz : ∀ w,(zeroValue e).run P w = .ok z w) (h : zaR P k enc V W b n f) (x : κ) (hx : V x) (hm : a.eval m = .map (some b)) (hy : a.eval y = enc x) (v : Value) (c : Bool) (hv : (f x).getD z = v) (hc : (f x).isSome = c)
  (hK : wpQuiet P ops (fun w' => ∃ n,w' = W.drewN n) Q rest (a.put o.dst (.tuple #[v,.bool c]))) : wpQuiet P ops (fun w' => ∃ n,w' = W.drewN n) Q (o :: rest) a := by
 have hw : Region.wanted o (yielded ops a.tmps) = true := by simp [Region.wanted,hgd]
 unfold wpQuiet;rw [if_pos hw];subst hv hc;refine ⟨_,?_,hK⟩;rintro w ⟨n,rfl⟩;unfold Oper.quietAt execOp;have := (h.drewN n).look E ht (hz _) x hx true;simp only [hop,hm,hy,Sem.run_bind,this,Result.andThen_ok,Sem.run_pure];exact ⟨rfl,rfl⟩
end
end
section
section
variable {P : Program}
end
end
section
theorem zic {a b : Bool}(h : a = b) : Ending.returned (.bool a) = .returned (.bool b) := by rw [h]
theorem zid {k : IntKind}{a b : Int}(h : a = b) : Ending.returned (.int k a) = .returned (.int k b) := by rw [h]
theorem zqN {cs : List Value}(h : ∀ v ∈ cs,v.oneCell' = true) : cs.toArray.all (·.oneCell') = true :=
 Array.all_eq_true_iff_forall_mem.2 (fun v hv => h v (by simpa using hv))
theorem infI : (prog.info? 47).map (fun i => (i.zero,i.size,i.bytes)) = some (some (.agg #[.int .i8 0,.int .i8 0,.int .i8 0,.int .i8 0,.bool false,.int .i8 0,.int .i8 0,.int .i64 0,.int .i64 0]),9,24) := by kernel_rfl
theorem zqO : zcy prog 4 47 = some zc5 := by kernel_rfl
theorem okI : zm9 prog 4 47 = true := by kernel_rfl
theorem aggI : zkX prog 47 = true := by kernel_rfl
theorem ziZ : (prog.info? 47).map (·.size) = some 9 := by kernel_rfl
theorem zr6 {x y : ID}(hx : x.wf)(hy : y.wf)(w : World) : (binOp .eql 47 (.agg x.cells.toArray) (.agg y.cells.toArray)).run prog w = .ok (.bool (eqL x.cells y.cells)) w :=
 zfi (by omega) zqO okI aggI (ID.all hx) (ID.all hy) w
theorem zr7 {x y : ID}(hx : x.wf)(hy : y.wf)(w : World) : (binOp .neq 47 (.agg x.cells.toArray) (.agg y.cells.toArray)).run prog w = .ok (.bool (!eqL x.cells y.cells)) w :=
 zij (by omega) zqO okI aggI (ID.all hx) (ID.all hy) w
theorem zbl (n a b : Int)(w : World) : Calls prog 155 #[.int .i8 n,.int .i8 a,.int .i8 b] w fun e w' => e = .returned (.bool (inB n a b)) ∧ w = w' := by
 by_cases h : a ≤ n
 ·go_enter func155,ntmps155
  go_wp2;go_ret;exact ⟨zic (by unfold inB; simp [h] <;> omega),rfl⟩
 ·go_enter func155,ntmps155
  go_wp2;go_ret;exact ⟨zic (by unfold inB; simp [h] <;> omega),rfl⟩
theorem zbd (n a b : Int)(w : World) : Calls prog 109 #[.int .i64 n,.int .i64 a,.int .i64 b] w fun e w' => e = .returned (.bool (inB n a b)) ∧ w = w' := by
 by_cases h : a ≤ n
 ·go_enter func109,ntmps109
  go_wp2;go_ret;exact ⟨zic (by unfold inB; simp [h] <;> omega),rfl⟩
 ·go_enter func109,ntmps109
  go_wp2;go_ret;exact ⟨zic (by unfold inB; simp [h] <;> omega),rfl⟩
theorem zie (n : Int)(w : World) : Calls prog 173 #[.int .i8 n] w fun e w' => e = .returned (.bool (szB n)) ∧ w = w' := by
 go_enter func173,ntmps173;go_wp2
 all_goals
  go_ret;exact ⟨zic (by unfold szB; simp_all),rfl⟩
def zkW (x : ID)(w : World)(e : Ending)(w' : World) : Prop := e = .returned (.tuple #[.agg (zdh x).cells.toArray,.bool (zcK x)]) ∧ Below w.heap.size w w'
theorem zhz (k op wd sz : Int)(br : Bool)(dst src off imm : Int)(g : Nat)(w : World)(hB : Blk w g 47 #[.int .i8 k,.int .i8 op,.int .i8 wd,.int .i8 sz,.bool br,.int .i8 dst,.int .i8 src,.int .i64 off,.int .i64 imm]) :
 Calls prog 172 #[.pointer (some ⟨g,0,none⟩)] w fun e w' => e = .returned (.tuple #[]) ∧ (if br then w.setCell ⟨g,6,none⟩ (.int .i8 0) else w.setCell ⟨g,8,none⟩ (.int .i64 0)).setCell ⟨g,4,none⟩ (.bool false) = w' := by
 have c4 : w.cell? ⟨g,4,none⟩ = some (.bool br) := hB.cell 4;have c6 : w.cell? ⟨g,6,none⟩ = some (.int .i8 src) := hB.cell 6;have c8 : w.cell? ⟨g,8,none⟩ = some (.int .i64 imm) := hB.cell 8;have f4 := hB.frozen 4;have f6 := hB.frozen 6;have f8 := hB.frozen 8;clear hB
 cases br
 all_goals
  go_enter func172,ntmps172;go_wp2;go_end0;exact ⟨rfl,rfl⟩
theorem zr8 (op wd sz dst src off imm : Int)(br : Bool)(w : World) : Calls prog 156 #[.agg #[.int .i8 0,.int .i8 op,.int .i8 wd,.int .i8 sz,.bool br,.int .i8 dst,.int .i8 src,.int .i64 off,.int .i64 imm]] w (zkW ⟨0,op,wd,sz,br,dst,src,off,imm⟩ w) := by
 go_enter func156,ntmps156;go_upto_region 4 with fail
 go_cut [3] (fun v wc => v = .bool (zcK ⟨0,op,wd,sz,br,dst,src,off,imm⟩) ∧ wc = (w.alloc (.cells #[.int .i8 0,.int .i8 op,.int .i8 wd,.int .i8 sz,.bool br,.int .i8 dst,.int .i8 src,.int .i64 off,.int .i64 imm] 47)).alloc (.cells #[.int .i8 0,.int .i8 0,.int .i8 0,.int .i8 0,.bool false,.int .i8 0,.int .i8 0,.int .i64 0,.int .i64 0] 47))
 case first =>
  cases hin : inB op 0 12
  ·go_wp2_with (go_at_call 155; refine (zbl _ _ _ _).mono ?_; rintro e w' ⟨rfl,rfl⟩; rw [hin])
   go_meet;exact ⟨by simp [zcK,hin],rfl⟩
  ·cases h32 : (wd == 32)
   ·cases h64 : (wd == 64)
    ·go_wp2_with (go_at_call 155; refine (zbl _ _ _ _).mono ?_; rintro e w' ⟨rfl,rfl⟩; rw [hin])
     go_meet;exact ⟨by simp [zcK,hin,h32,h64],rfl⟩
    ·cases hd : decide (dst < 10)
     ·go_wp2_with (go_at_call 155; refine (zbl _ _ _ _).mono ?_; rintro e w' ⟨rfl,rfl⟩; rw [hin])
      go_meet;exact ⟨by simp [zcK,hin,h32,h64,hd],rfl⟩
     ·cases h8 : (op == 8)
      ·have h8' : (op != 8) = true := by simp [bne,h8]
       go_wp2_with (go_at_call 155; refine (zbl _ _ _ _).mono ?_; rintro e w' ⟨rfl,rfl⟩; rw [hin])
       go_meet;exact ⟨by simp [zcK,hin,h32,h64,hd,h8,h8'],rfl⟩
      ·have h8' : (op != 8) = false := by simp [bne,h8]
       cases br
       ·go_wp2_with (go_at_call 155; refine (zbl _ _ _ _).mono ?_; rintro e w' ⟨rfl,rfl⟩; rw [hin])
        go_meet;exact ⟨by simp [zcK,hin,h32,h64,hd,h8,h8'],rfl⟩
       ·go_wp2_with (go_at_call 155; refine (zbl _ _ _ _).mono ?_; rintro e w' ⟨rfl,rfl⟩; rw [hin])
        go_meet;exact ⟨by simp [zcK,hin,h32,h64,hd,h8,h8'],rfl⟩
   ·cases hd : decide (dst < 10)
    ·go_wp2_with (go_at_call 155; refine (zbl _ _ _ _).mono ?_; rintro e w' ⟨rfl,rfl⟩; rw [hin])
     go_meet;exact ⟨by simp [zcK,hin,h32,hd],rfl⟩
    ·cases h8 : (op == 8)
     ·have h8' : (op != 8) = true := by simp [bne,h8]
      go_wp2_with (go_at_call 155; refine (zbl _ _ _ _).mono ?_; rintro e w' ⟨rfl,rfl⟩; rw [hin])
      go_meet;exact ⟨by simp [zcK,hin,h32,hd,h8,h8'],rfl⟩
     ·have h8' : (op != 8) = false := by simp [bne,h8]
      cases br
      ·go_wp2_with (go_at_call 155; refine (zbl _ _ _ _).mono ?_; rintro e w' ⟨rfl,rfl⟩; rw [hin])
       go_meet;exact ⟨by simp [zcK,hin,h32,hd,h8,h8'],rfl⟩
      ·go_wp2_with (go_at_call 155; refine (zbl _ _ _ _).mono ?_; rintro e w' ⟨rfl,rfl⟩; rw [hin])
       go_meet;exact ⟨by simp [zcK,hin,h32,hd,h8,h8'],rfl⟩
 case rest =>
  obtain ⟨rfl,rfl⟩ := hcut;obtain ⟨m,hm⟩ : ∃ m,zcK ⟨0,op,wd,sz,br,dst,src,off,imm⟩ = m := ⟨_,rfl⟩;rw [hm];have HM := Hd hm
  clear hm
  cases br
  ·go_wp2_with (go_at_call 172; refine (zhz 0 op wd sz _ dst src off imm _ _ ((Blk.new w _ _).alloc _)).mono ?_; rintro e w' ⟨rfl,rfl⟩)
   refine bodyPost_ret (v := .tuple #[.agg (zdh ⟨0,op,wd,sz,false,dst,src,off,imm⟩).cells.toArray,.bool m]) (by simp [results,results156,go_sem,zdh,znd,ID.cells]) rfl ⟨by rw [HM.out],?_⟩;exact ((Below.refl _ _).alloc (ztn _) _).alloc (zaF _ (ztn _)) _
  ·go_wp2_with (go_at_call 172; refine (zhz 0 op wd sz _ dst src off imm _ _ ((Blk.new w _ _).alloc _)).mono ?_; rintro e w' ⟨rfl,rfl⟩)
   refine bodyPost_ret (v := .tuple #[.agg (zdh ⟨0,op,wd,sz,true,dst,src,off,imm⟩).cells.toArray,.bool m]) (by simp [results,results156,go_sem,zdh,znd,ID.cells]) rfl ⟨by rw [HM.out],?_⟩;exact ((Below.refl _ _).alloc (ztn _) _).alloc (zaF _ (ztn _)) _
theorem zr9 (op wd sz dst src off imm : Int)(br : Bool)(w : World) : Calls prog 156 #[.agg #[.int .i8 3,.int .i8 op,.int .i8 wd,.int .i8 sz,.bool br,.int .i8 dst,.int .i8 src,.int .i64 off,.int .i64 imm]] w (zkW ⟨3,op,wd,sz,br,dst,src,off,imm⟩ w) := by
 go_enter func156,ntmps156;go_upto_region 14 with fail
 go_cut [3] (fun v wc => v = .bool (zcK ⟨3,op,wd,sz,br,dst,src,off,imm⟩) ∧ wc = (w.alloc (.cells #[.int .i8 3,.int .i8 op,.int .i8 wd,.int .i8 sz,.bool br,.int .i8 dst,.int .i8 src,.int .i64 off,.int .i64 imm] 47)).alloc (.cells #[.int .i8 0,.int .i8 0,.int .i8 0,.int .i8 0,.bool false,.int .i8 0,.int .i8 0,.int .i64 0,.int .i64 0] 47))
 case first =>
  cases hin : inB op 0 10
  all_goals
   go_wp2_with (go_at_call 155; refine (zbl _ _ _ _).mono ?_; rintro e w' ⟨rfl,rfl⟩; rw [hin])
   go_meet;exact ⟨by simp [zcK,hin],rfl⟩
 case rest =>
  obtain ⟨rfl,rfl⟩ := hcut;obtain ⟨m,hm⟩ : ∃ m,zcK ⟨3,op,wd,sz,br,dst,src,off,imm⟩ = m := ⟨_,rfl⟩;rw [hm];have HM := Hd hm
  clear hm
  cases br
  ·go_wp2_with (go_at_call 172; refine (zhz 3 op wd sz _ dst src off imm _ _ ((Blk.new w _ _).alloc _)).mono ?_; rintro e w' ⟨rfl,rfl⟩)
   refine bodyPost_ret (v := .tuple #[.agg (zdh ⟨3,op,wd,sz,false,dst,src,off,imm⟩).cells.toArray,.bool m]) (by simp [results,results156,go_sem,zdh,znd,ID.cells]) rfl ⟨by rw [HM.out],?_⟩;exact ((Below.refl _ _).alloc (ztn _) _).alloc (zaF _ (ztn _)) _
  ·go_wp2_with (go_at_call 172; refine (zhz 3 op wd sz _ dst src off imm _ _ ((Blk.new w _ _).alloc _)).mono ?_; rintro e w' ⟨rfl,rfl⟩)
   refine bodyPost_ret (v := .tuple #[.agg (zdh ⟨3,op,wd,sz,true,dst,src,off,imm⟩).cells.toArray,.bool m]) (by simp [results,results156,go_sem,zdh,znd,ID.cells]) rfl ⟨by rw [HM.out],?_⟩;exact ((Below.refl _ _).alloc (ztn _) _).alloc (zaF _ (ztn _)) _
theorem zif (k op wd sz dst src off imm : Int)(br : Bool)(w : World)(hk : k = 1 ∨ k = 2 ∨ k = 4 ∨ k = 5 ∨ k = 6) : Calls prog 156 #[.agg #[.int .i8 k,.int .i8 op,.int .i8 wd,.int .i8 sz,.bool br,.int .i8 dst,.int .i8 src,.int .i64 off,.int .i64 imm]] w (zkW ⟨k,op,wd,sz,br,dst,src,off,imm⟩ w) := by
 obtain ⟨y,hy⟩ : ∃ y,(⟨k,op,wd,sz,br,dst,src,off,imm⟩ : ID) = y := ⟨_,rfl⟩;rw [hy];have HY := Hd hy
 clear hy
 rcases hk with rfl | rfl | rfl | rfl | rfl
 all_goals
  go_enter func156,ntmps156;go_wp2_with (first
   | (go_at_call 155; refine (zbl _ _ _ _).mono ?_; rintro e w' ⟨rfl,rfl⟩; cases hin : inB op 0 12)
   | (go_at_call 109; refine (zbd _ _ _ _).mono ?_; rintro e w' ⟨rfl,rfl⟩; cases hin : inB imm 0 15)
   | (go_at_call 173; refine (zie _ _).mono ?_; rintro e w' ⟨rfl,rfl⟩; cases hsz : szB sz)
   | go_in
   | go_back)
  all_goals
   refine bodyPost_ret (v := .tuple #[.agg (zdh y).cells.toArray,.bool (zcK y)]) (by rw [← HY.out]; simp [results,results156,go_sem,zdh,zcK,znd,ID.cells, *]) rfl ⟨rfl,?_⟩;exact ((Below.refl _ _).alloc (ztn _) _).alloc (zaF _ (ztn _)) _
theorem zsa (k op wd sz dst src off imm : Int)(br : Bool)(w : World)(h0 : ¬ k = 0)(h1 : ¬ k = 1)(h2 : ¬ k = 2)(h3 : ¬ k = 3)(h4 : ¬ k = 4)(h5 : ¬ k = 5)(h6 : ¬ k = 6) : Calls prog 156 #[.agg #[.int .i8 k,.int .i8 op,.int .i8 wd,.int .i8 sz,.bool br,.int .i8 dst,.int .i8 src,.int .i64 off,.int .i64 imm]] w (zkW ⟨k,op,wd,sz,br,dst,src,off,imm⟩ w) := by
 go_enter func156,ntmps156;go_wp2_with (first
  | (go_at_call 155; refine (zbl _ _ _ _).mono ?_; rintro e w' ⟨rfl,rfl⟩; cases hin : inB op 0 12)
  | (go_at_call 109; refine (zbd _ _ _ _).mono ?_; rintro e w' ⟨rfl,rfl⟩; cases hin : inB imm 0 15)
  | (go_at_call 173; refine (zie _ _).mono ?_; rintro e w' ⟨rfl,rfl⟩; cases hsz : szB sz)
  | go_in
  | go_back)
 all_goals
  refine bodyPost_ret (v := .tuple #[.agg (zdh ⟨k,op,wd,sz,br,dst,src,off,imm⟩).cells.toArray,.bool (zcK ⟨k,op,wd,sz,br,dst,src,off,imm⟩)]) (by simp [results,results156,go_sem,zdh,zcK,znd,ID.cells, *]) rfl ⟨rfl,?_⟩;exact ((Below.refl _ _).alloc (ztn _) _).alloc (zaF _ (ztn _)) _
theorem zo2 (x : ID)(w : World) : Calls prog 156 #[.agg x.cells.toArray] w (zkW x w) := by
 obtain ⟨k,op,wd,sz,br,dst,src,off,imm⟩ := x
 rcases Decidable.em (k = 0) with rfl | h0
 ·exact zr8 op wd sz dst src off imm br w
 rcases Decidable.em (k = 1) with rfl | h1
 ·exact zif 1 op wd sz dst src off imm br w (by omega)
 rcases Decidable.em (k = 2) with rfl | h2
 ·exact zif 2 op wd sz dst src off imm br w (by omega)
 rcases Decidable.em (k = 3) with rfl | h3
 ·exact zr9 op wd sz dst src off imm br w
 rcases Decidable.em (k = 4) with rfl | h4
 ·exact zif 4 op wd sz dst src off imm br w (by omega)
 rcases Decidable.em (k = 5) with rfl | h5
 ·exact zif 5 op wd sz dst src off imm br w (by omega)
 rcases Decidable.em (k = 6) with rfl | h6
 ·exact zif 6 op wd sz dst src off imm br w (by omega)
 exact zsa k op wd sz dst src off imm br w h0 h1 h2 h3 h4 h5 h6
/-! behind bare -/
end
end Go.Proofs.YtepagfkkjlbipaaGreat
