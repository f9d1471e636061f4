/-
  Parts of the proof of SymbcRuns. Conditions: those written in each statement.
-/
import Derived.Test.YtepagfkkjlbipaaGreatKaj
set_option linter.unusedVariables false
set_option linter.unusedSimpArgs false
set_option maxHeartbeats 64000000
set_option maxRecDepth 100000
namespace Go.Proofs.YtepagfkkjlbipaaGreat
open Go.RowKit
open Tryz
section
structure zaO (w : World)(base : Nat)(F : Nat → Prop)(g : Nat)(p : PS) : Prop where
 ex : ∃ ls ds,Blk w g 104 #[ls,ds] ∧ w.ownsRow base 147 7 ls p.T.length (p.T.flatMap TD.cells) ∧ w.ownsRow base 3 1 ds p.T.length (p.D.map (Value.int .i64)) ∧ F g ∧ (∀ b,ls.ownBlock = some b → F b) ∧ (∀ b,ds.ownBlock = some b → F b)
 wf : WfP p
 rng : ∀ t ∈ p.T,t.wf
 fb : ∀ b,F b → base ≤ b ∧ b < w.heap.size
section
variable {w w' : World}{base g : Nat}{F G : Nat → Prop}{p : PS}
theorem zaO.chg (h : zaO w base F g p)(hc : Chg G w w')(hd : ∀ b,F b → ¬ G b) : zaO w' base F g p := by
 obtain ⟨ls,ds,h1,h2,h3,f1,f4,f5⟩ := h.ex;exact ⟨⟨ls,ds,hc.blk h1 (hd _ f1),hc.own h2 (fun b q => hd _ (f4 b q)),hc.own h3 (fun b q => hd _ (f5 b q)),f1,f4,f5⟩,h.wf,h.rng,fun b q => ⟨(h.fb b q).1,zty (h.fb b q).2 hc.size⟩⟩
theorem zaO.below (h : zaO w base F g p)(hb : Below w.heap.size w w') : zaO w' base F g p := h.chg (G := fun _ => False) (.of_below hb) (fun _ _ q => q)
theorem zaO.view (h : zaO w base F g p) : ∃ A c D d,w.cell? ⟨g,0,none⟩ = some (.slice A p.T.length c) ∧ p.T.length ≤ c ∧ zaU w w.heap.size 7 A p.T.length (p.T.flatMap TD.cells) ∧
  w.cell? ⟨g,1,none⟩ = some (.slice D p.T.length d) ∧ p.T.length ≤ d ∧ zaU w w.heap.size 1 D p.T.length (p.D.map (Value.int .i64)) := by
 obtain ⟨ls,ds,h1,h2,h3,_⟩ := h.ex;obtain ⟨A,c,rfl,h4,h5⟩ := (zbr.of_own h2).slice;obtain ⟨D,d,rfl,h6,h7⟩ := (zbr.of_own h3).slice;exact ⟨A,c,D,d,h1.cell 0,h4,h5,h1.cell 1,h6,h7⟩
theorem zaO.few (h : zaO w base F g p) : p.T.length ≤ 4000 := h.wf.few
theorem zaO.at_ (h : zaO w base F g p){k : Nat}(hk : k < p.T.length) : ∃ ad c t,w.cell? ⟨g,0,none⟩ = some (.slice (some ad) p.T.length c) ∧ p.T.length ≤ c ∧ p.T[k]? = some t ∧ t.wf ∧ (∀ j u,t.cells[j]? = some u → w.cell? ((ad.add (k * 7)).add j) = some u) := by
 obtain ⟨A,c,D,d,h1,h2,h3,_⟩ := h.view;obtain ⟨ad,rfl,hb,hc⟩ := h3.2 (by omega);have ht : p.T[k]? = some p.T[k] := ztq hk;refine ⟨ad,c,_,h1,h2,ht,h.rng _ (ztv ht),fun j u hu => ?_⟩;rw [za0];exact hc _ u (ze7 TD.cells 7 p.T (fun _ _ => rfl) k j _ u ht hu)
theorem zaL (k : Int)(h : zaO w base F g p) : Calls prog 154 #[.pointer (some ⟨g,0,none⟩),.int .i64 k] w fun e w' => e = .returned (.bool (zal p.T k)) ∧ w = w' := by
 obtain ⟨A,c,D,d,h1,h2,_,h4,h5,_⟩ := h.view;have hf := h.few;obtain ⟨n,hn⟩ : ∃ n,p.T.length = n := ⟨_,rfl⟩;have HB := Hd (show zal p.T k = (decide (0 ≤ k) && decide (k < (n : Int))) by unfold zal; rw [hn])
 rw [hn] at h1 h2 hf;clear hn h h4 h5
 cases hk : decide (0 ≤ k)
 ·go_enter func154,ntmps154
  go_wp2;go_ret;exact ⟨by rw [HB.out,hk]; rfl,rfl⟩
 ·go_enter func154,ntmps154
  go_wp2;go_ret;exact ⟨by rw [HB.out,hk]; rfl,rfl⟩
theorem zmx {k : Int}(h : zaO w base F g p)(hk : zal p.T k = false) : Calls prog 146 #[.pointer (some ⟨g,0,none⟩),.int .i64 k] w fun e w' => e = .returned (.tuple #[zaw zbi,.int .i64 2]) ∧ Below w.heap.size w w' := by
 have H := Hd h
 have HH := Hd hk
 clear h hk;go_enter func146,ntmps146;go_wp2_with fail
 refine (zaL k (H.out.below ((Below.refl _ _).alloc (ztn _) _))).mono ?_;rintro e w' ⟨rfl,rfl⟩;rw [HH.out];go_wp2;exact bodyPost_ret (v := .tuple #[zaw zbi,.int .i64 2]) (by simp [results,results146,go_sem,zaw,zbi,TD.cells]) rfl ⟨rfl,(Below.refl _ _).alloc (ztn _) _⟩
theorem zjM {k : Nat}{t : TD}(h : zaO w base F g p)(ht : p.T[k]? = some t) : Calls prog 146 #[.pointer (some ⟨g,0,none⟩),.int .i64 k] w fun e w' => e = .returned (.tuple #[zaw t,.int .i64 0]) ∧ Below w.heap.size w w' := by
 have hk : k < p.T.length := (ztt.1 ht).1;have H1 := h.below ((Below.refl _ _).alloc (ztn _) (.cells #[.int .i8 0,.int .i8 0,.int .i8 0,.int .u64 0,.int .i64 0,.int .i64 0,.int .i64 0] 147));obtain ⟨ad,c,t',h1,h2,ht',_,hc⟩ := H1.at_ hk;obtain rfl : t = t' := by rw [ht] at ht'; exact Option.some.inj ht'
 have H := Hd H1
 have hh : zal p.T k = true := by unfold zal; simp; exact hk
 have HH := Hd hh
 have hf := h.few;obtain ⟨n,hn⟩ : ∃ n,p.T.length = n := ⟨_,rfl⟩;rw [hn] at h1 h2 hk hf;have HC := Hd hc
 clear hn h ht' ht hh H1 hc;have hkd : k < c := by omega
 go_enter func146,ntmps146;go_wp2_with fail
 refine (zaL k H.out).mono ?_;rintro e w' ⟨rfl,rfl⟩;rw [HH.out];go_wp2_with (first
  | (refine zae rfl 147 (.tmp 19) rfl (ad.add (k * 7)) (by rfl) t.lit _ HC.out underlying147 rfl zcL ?_)
  | fail)
 exact bodyPost_ret (v := .tuple #[zaw t,.int .i64 0]) (by simp [results,results146,go_sem,zaw,TD.cells]) rfl ⟨rfl,((Below.refl _ _).alloc (ztn _) _)⟩
theorem zf7 (k : Int)(w : World)(h : zaO w base F g p) : Calls prog 146 #[.pointer (some ⟨g,0,none⟩),.int .i64 k] w fun e w' => e = .returned (.tuple #[zaw (atP p.T k),.int .i64 (if zal p.T k = true then 0 else 2)]) ∧ Below w.heap.size w w' := by
 cases hb : zal p.T k
 ·have e1 : atP p.T k = zbi := by unfold atP; rw [hb]; rfl
  rw [e1];exact zmx h hb
 ·have hb2 := hb
  unfold zal at hb2;simp at hb2;obtain ⟨n,rfl⟩ : ∃ n : Nat,k = (n : Int) := ⟨k.toNat,by omega⟩;have ht : p.T[n]? = some (atP p.T (n : Int)) := by
   unfold atP;rw [if_pos hb,zts,show ((n : Int)).toNat = n by omega,ztq (by omega)]
   rfl
  exact zjM h ht
end
theorem ziQ (w : World) : (Instr.build 104 #[]).run prog w = .ok (.agg #[.slice none 0 0,.slice none 0 0]) w := run_build w 104 _ _ (by kernel_rfl)
theorem zoF (w : World) : Calls prog 12 #[] w fun e w' => ∃ g F,e = .returned (.pointer (some ⟨g,0,none⟩)) ∧ zaO w' w.heap.size F g ⟨[],[]⟩ ∧ Below w.heap.size w w' := by
 have hb := fun (w : World) => ziQ w
 go_enter func12,ntmps12;go_wp2;go_ret;refine ⟨w.heap.size,fun b => b = w.heap.size,rfl,⟨⟨.slice none 0 0,.slice none 0 0,Blk.new w 104 #[.slice none 0 0,.slice none 0 0],⟨rfl,.inl ⟨rfl,rfl⟩⟩,⟨rfl,.inl ⟨rfl,rfl⟩⟩,rfl,fun b q => (by cases q),fun b q => (by cases q)⟩,WfP.nil,by simp,fun b q => ⟨by omega,by simp; omega⟩⟩,(Below.refl _ _).alloc (ztn _) _⟩
end
section
def zf8 (w : World)(v : Value)(xs : List Int) : Prop := ∃ A c,v = .slice A xs.length c ∧ xs.length ≤ c ∧ zaU w w.heap.size 1 A xs.length (xs.map (Value.int .i64))
theorem zf8.new (w : World)(xs : List Int) : zf8 (w.alloc (.cells (xs.map (Value.int .i64)).toArray 3)) (.slice (some ⟨w.heap.size,0,none⟩) xs.length xs.length) xs :=
 ⟨_,_,rfl,ztn _,zbH (Blk.new w 3 (xs.map (Value.int .i64)).toArray) xs.length 1 (by simp)⟩
theorem zav (w : World)(o : Obj) : Below w.heap.size w (w.alloc o) := (Below.refl _ _).alloc (ztn _) _
theorem zkP (t : TD)(w : World) : Calls prog 108 #[zaw t] w fun e w' => ∃ v,e = .returned v ∧ zf8 w' v (zax t) ∧ Below w.heap.size w w' := by
 have HB := Hd ((Below.refl _ w).alloc (ztn _) (.cells t.cells.toArray 147))
 have HX := Hd (Blk.new w 147 t.cells.toArray)
 unfold zaw
 cases k2 : (t.kind == 2);rotate_left
 ·have n2 : t.kind = 2 := by simpa using k2
  have hp : zax t = [t.a,t.b] := by unfold zax; rw [if_pos (.inl n2)]
  rw [hp];go_enter func108,ntmps108;go_upto_region 1 with fail
  generalize w.alloc (.cells t.cells.toArray 147) = w1 at HB HX ⊢;obtain ⟨b1,hb1⟩ : ∃ b,w.heap.size = b := ⟨_,rfl⟩;have HW := Hd hb1
  rw [hb1] at HX ⊢;clear hb1;have q0 := HX.out.cell 0;have q4 := HX.out.cell 4;have q5 := HX.out.cell 5;have q6 := HX.out.cell 6;simp [TD.cells] at q0 q4 q5 q6;go_wp2;go_ret;exact ⟨_,rfl,zf8.new w1 [t.a,t.b],HB.out.trans ((zav w1 _).mono HB.out.size)⟩
 cases k4 : (t.kind == 4);rotate_left
 ·have n4 : t.kind = 4 := by simpa using k4
  have hp : zax t = [t.a,t.b] := by unfold zax; rw [if_pos (.inr n4)]
  rw [hp];go_enter func108,ntmps108;go_upto_region 1 with fail
  generalize w.alloc (.cells t.cells.toArray 147) = w1 at HB HX ⊢;obtain ⟨b1,hb1⟩ : ∃ b,w.heap.size = b := ⟨_,rfl⟩;have HW := Hd hb1
  rw [hb1] at HX ⊢;clear hb1;have q0 := HX.out.cell 0;have q4 := HX.out.cell 4;have q5 := HX.out.cell 5;have q6 := HX.out.cell 6;simp [TD.cells] at q0 q4 q5 q6;go_wp2;go_ret;exact ⟨_,rfl,zf8.new w1 [t.a,t.b],HB.out.trans ((zav w1 _).mono HB.out.size)⟩
 cases k3 : (t.kind == 3);rotate_left
 ·have n3 : t.kind = 3 := by simpa using k3
  have hp : zax t = [t.a] := by unfold zax; rw [if_neg (by omega),if_pos n3]
  rw [hp];go_enter func108,ntmps108;go_upto_region 1 with fail
  generalize w.alloc (.cells t.cells.toArray 147) = w1 at HB HX ⊢;obtain ⟨b1,hb1⟩ : ∃ b,w.heap.size = b := ⟨_,rfl⟩;have HW := Hd hb1
  rw [hb1] at HX ⊢;clear hb1;have q0 := HX.out.cell 0;have q4 := HX.out.cell 4;have q5 := HX.out.cell 5;have q6 := HX.out.cell 6;simp [TD.cells] at q0 q4 q5 q6;go_wp2;go_ret;exact ⟨_,rfl,zf8.new w1 [t.a],HB.out.trans ((zav w1 _).mono HB.out.size)⟩
 cases k5 : (t.kind == 5);rotate_left
 ·have n5 : t.kind = 5 := by simpa using k5
  have hp : zax t = [t.a,t.b,t.c] := by unfold zax; rw [if_neg (by omega),if_neg (by omega),if_pos n5]
  rw [hp];go_enter func108,ntmps108;go_upto_region 1 with fail
  generalize w.alloc (.cells t.cells.toArray 147) = w1 at HB HX ⊢;obtain ⟨b1,hb1⟩ : ∃ b,w.heap.size = b := ⟨_,rfl⟩;have HW := Hd hb1
  rw [hb1] at HX ⊢;clear hb1;have q0 := HX.out.cell 0;have q4 := HX.out.cell 4;have q5 := HX.out.cell 5;have q6 := HX.out.cell 6;simp [TD.cells] at q0 q4 q5 q6;go_wp2;go_ret;exact ⟨_,rfl,zf8.new w1 [t.a,t.b,t.c],HB.out.trans ((zav w1 _).mono HB.out.size)⟩
 ·have hp : zax t = [] := by
   simp at k2 k3 k4 k5;unfold zax;rw [if_neg (by omega),if_neg k3,if_neg k5]
  rw [hp];go_enter func108,ntmps108;go_upto_region 1 with fail
  generalize w.alloc (.cells t.cells.toArray 147) = w1 at HB HX ⊢;obtain ⟨b1,hb1⟩ : ∃ b,w.heap.size = b := ⟨_,rfl⟩;have HW := Hd hb1
  rw [hb1] at HX ⊢;clear hb1;have q0 := HX.out.cell 0;have q4 := HX.out.cell 4;have q5 := HX.out.cell 5;have q6 := HX.out.cell 6;simp [TD.cells] at q0 q4 q5 q6;go_wp2;go_ret;exact ⟨_,rfl,⟨none,0,rfl,ztn _,zaU.none_⟩,HB.out⟩
end
section
structure RG (base g : Nat)(F : Nat → Prop)(w : World)(F' : Nat → Prop)(p' : PS)(w' : World) : Prop where
 pool : zaO w' base F' g p'
 chg : Chg F w w'
 new : ∀ b,F' b → F b ∨ w.heap.size ≤ b
section
variable {base g : Nat}{F F1 F2 : Nat → Prop}{w w1 w2 : World}{p p1 p2 : PS}
theorem RG.refl (h : zaO w base F g p) : RG base g F w F p w := ⟨h,Chg.refl _ _,fun b q => .inl q⟩
theorem RG.trans (h : RG base g F w F1 p1 w1)(k : RG base g F1 w1 F2 p2 w2) : RG base g F w F2 p2 w2 :=
 ⟨k.pool,h.chg.trans k.chg h.new,fun b q => (k.new b q).elim (h.new b) (fun e => .inr (zto h.chg.size e))⟩
theorem RG.step (h : RG base g F w F1 p1 w1)(hb : Below w1.heap.size w1 w2) : RG base g F w F1 p1 w2 :=
 h.trans ⟨h.pool.below hb,Chg.of_below hb,fun b q => .inl q⟩
theorem RG.of_below (h : zaO w base F g p)(hb : Below w.heap.size w w1) : RG base g F w F p w1 := (RG.refl h).step hb
theorem RG.blk (h : RG base g F w F1 p1 w1){b : Nat}{t : TypeId}{cs : Array Value}(hb : Blk w b t cs)(hf : ¬ F b) : Blk w1 b t cs ∧ ¬ F1 b :=
 ⟨h.chg.blk hb hf,fun q => (h.new b q).elim hf (fun e => by have := hb.lt; omega)⟩
theorem RG.size (h : RG base g F w F1 p1 w1) : w.heap.size ≤ w1.heap.size := h.chg.size
end
def zc7 (base g : Nat)(F : Nat → Prop)(w : World)(r : RS)(e : Ending)(w' : World) : Prop :=
 e = .returned (.tuple #[.int .i64 r.2.1,.int .i64 r.2.2]) ∧ ∃ F',RG base g F w F' r.1 w'
section
variable {base g : Nat}{F F1 : Nat → Prop}{w w1 w2 : World}{p p1 : PS}{r : RS}{e : Ending}
theorem zc7.from (h : RG base g F w F1 p1 w1)(k : zc7 base g F1 w1 r e w2) : zc7 base g F w r e w2 := by
 obtain ⟨h1,F2,h2⟩ := k;exact ⟨h1,F2,h.trans h2⟩
theorem zc7.same (h : RG base g F w F1 p1 w1){n m : Int} : zc7 base g F w (p1,n,m) (.returned (.tuple #[.int .i64 n,.int .i64 m])) w1 := ⟨rfl,F1,h⟩
end
end
section
structure RW (base g bt : Nat)(F : Nat → Prop)(t : TD)(w : World)(a0 a1 x y : Value)(nx ny : Nat)(xs ys : List Value)(W : World) : Prop where
 box : Blk W bt 147 t.cells.toArray
 pool : Blk W g 104 #[a0,a1]
 rx : W.ownsRow base 147 7 x nx xs
 ry : W.ownsRow base 3 1 y ny ys
 chg : Chg F w W
 ox : ∀ b,x.ownBlock = some b → F b ∨ w.heap.size < b
 oy : ∀ b,y.ownBlock = some b → F b ∨ w.heap.size < b
 fg : F g
 bt : bt = w.heap.size
 old : ∀ b,F b → b < w.heap.size
section
variable {base g bt nx ny : Nat}{F : Nat → Prop}{p : PS}{t : TD}{w W V : World}{a0 a1 x y : Value}{xs ys : List Value}
theorem RW.lt (h : RW base g bt F t w a0 a1 x y nx ny xs ys W) : w.heap.size < W.heap.size := by have := h.box.lt; rw [h.bt] at this; exact this
theorem RW.step (h : RW base g bt F t w a0 a1 x y nx ny xs ys W)(hb : Below W.heap.size W V) : RW base g bt F t w a0 a1 x y nx ny xs ys V where
 box := h.box.below hb h.box.lt
 pool := h.pool.below hb h.pool.lt
 rx := zaG h.rx fun r q => hb.block r (zaQ h.rx r q).2
 ry := zaG h.ry fun r q => hb.block r (zaQ h.ry r q).2
 chg := h.chg.trans (Chg.of_below (F := fun _ => False) hb) (fun _ q => q.elim)
 ox := h.ox
 oy := h.oy
 fg := h.fg
 bt := h.bt
 old := h.old
theorem RW.g_bt (h : RW base g bt F t w a0 a1 x y nx ny xs ys W) : g ≠ bt := by have := h.old g h.fg; rw [h.bt]; omega
theorem RW.appx {x' : Value}{n' : Nat}{xs' : List Value}(h : RW base g bt F t w a0 a1 x y nx ny xs ys W)(hx : ∀ b,x.ownBlock = some b → F b)(hr : V.ownsRow base 147 7 x' n' xs')(hg : W.grownBy V x.ownBlock)(hb : x'.ownBlock = x.ownBlock ∨ x'.ownBlock = some W.heap.size) :
  RW base g bt F t w a0 a1 x' y n' ny xs' ys V where
 box := h.box.grown hg fun e => by have := h.old _ (hx _ e.symm); rw [h.bt] at this; omega
 pool := h.pool.grown hg fun e => zcf h.rx h.pool (by decide) e.symm
 rx := hr
 ry := zaG h.ry fun r q => hg.block r (zaQ h.ry r q).2 fun e => zcT h.rx h.ry (by decide) e.symm q
 chg := h.chg.trans (Chg.of_grown (F := F) hg fun r e => .inl (hx r e)) fun b q => .inl q
 ox := fun b q => by
  rcases hb with e | e
  ·rw [e] at q; exact h.ox b q
  ·rw [e] at q; injection q with q; have := h.lt; exact .inr (by omega)
 oy := h.oy
 fg := h.fg
 bt := h.bt
 old := h.old
theorem RW.appy2 {y' : Value}{n' : Nat}{ys' : List Value}(h : RW base g bt F t w a0 a1 x y nx ny xs ys W)(hy : ∀ b,y.ownBlock = some b → F b)(hr : V.ownsRow base 3 1 y' n' ys')(hg : W.grownBy V y.ownBlock)(hb : ∀ b,y'.ownBlock = some b → y.ownBlock = some b ∨ W.heap.size ≤ b) :
  RW base g bt F t w a0 a1 x y' nx n' xs ys' V where
 box := h.box.grown hg fun e => by have := h.old _ (hy _ e.symm); rw [h.bt] at this; omega
 pool := h.pool.grown hg fun e => zcf h.ry h.pool (by decide) e.symm
 rx := zaG h.rx fun r q => hg.block r (zaQ h.rx r q).2 fun e => zcT h.ry h.rx (by decide) e.symm q
 ry := hr
 chg := h.chg.trans (Chg.of_grown (F := F) hg fun r e => .inl (hy r e)) fun b q => .inl q
 ox := h.ox
 oy := fun b q => by
  rcases hb b q with e | e
  ·exact h.oy b e
  ·have := h.lt; exact .inr (by omega)
 fg := h.fg
 bt := h.bt
 old := h.old
theorem RW.set {b0 b1 : Value}(h : RW base g bt F t w a0 a1 x y nx ny xs ys W)(hB : Blk V g 104 #[b0,b1])(hg : W.grownBy V (some g)) : RW base g bt F t w b0 b1 x y nx ny xs ys V where
 box := h.box.grown hg fun e => by injection e with e; exact h.g_bt e.symm
 pool := hB
 rx := zaG h.rx fun r q => hg.block r (zaQ h.rx r q).2 fun e => by injection e with e; subst e; exact zcf h.rx h.pool (by decide) q
 ry := zaG h.ry fun r q => hg.block r (zaQ h.ry r q).2 fun e => by injection e with e; subst e; exact zcf h.ry h.pool (by decide) q
 chg := h.chg.trans (Chg.of_grown (F := F) hg fun r e => by injection e with e; subst e; exact .inl h.fg) fun b q => .inl q
 ox := h.ox
 oy := h.oy
 fg := h.fg
 bt := h.bt
 old := h.old
end
section
variable {P : Program}
theorem zdS {ops : Array Oper}{rest : List Oper}{o1 o2 : Oper}{a : Act}{w : World}{Q : Exit → Act → World → Prop}(hg1 : o1.guard = none)(hg2 : o2.guard = none)(t e : TypeId)(x s y : Operand)
  (ho1 : o1.op = .buildSlice t 1 #[(0,x)]) (ho2 : o2.op = .call { callee := .builtin .append,args := #[s,y],argTypes := #[t,t] })
  (base size bytes : Nat) (i0 : TypeInfo) (z v sv : Value) (cs xs : List Value) (n : Nat) (ht : P.underlying t = some (.slice e)) (hi : P.info? e = some i0) (hz : i0.zero = some z) (hs : i0.size = size) (hb : i0.bytes = bytes)
  (hzs : z.cells.size = size) (h0 : 0 < size) (hs0 : size ≤ 1024) (hx : a.eval x = v) (hcs : v.cells = cs.toArray) (hvs : cs.length = size) (h1 : ∀ u ∈ cs,u.oneCell' = true)
  (hown : w.ownsRow base e size sv n xs) (hbase : base ≤ w.heap.size) (h63 : n + 1 ≤ maxLen) (hbytes : (n + 1) * bytes ≤ 140737488355328)
  (hsv : (a.put o1.dst (.slice (some ⟨w.heap.size,0,none⟩) 1 1)).eval s = sv) (hy : (a.put o1.dst (.slice (some ⟨w.heap.size,0,none⟩) 1 1)).eval y = .slice (some ⟨w.heap.size,0,none⟩) 1 1)
  (h : ∀ v' w' g,w.heap.size ≤ g → w'.ownsRow base e size v' (n + 1) (xs ++ cs) → Below base w w' → w.grownBy w' sv.ownBlock → (∀ b,v'.ownBlock = some b → sv.ownBlock = some b ∨ w.heap.size ≤ b) → wpList P ops Q rest ((a.put o1.dst (.slice (some ⟨g,0,none⟩) 1 1)).put o2.dst v') w') : wpList P ops Q (o1 :: o2 :: rest) a w := by
 subst hs hb;refine wpList_plain hg1 fun K hK => ?_
 unfold Oper.wp execOp;have hrun := zbM (P := P) w t e i0 z v ht hi hz hs0 h0 (by rw [hcs]; simpa using hvs);simp only [ho1,Sem.run_bind,ztD,ztz,ztA,hx,hrun,Result.andThen_ok,Sem.run_pure];refine hK _ _ ?_;have hown' := hown.alloc (Obj.cells v.cells e);have hnew : zaU (w.alloc (.cells v.cells e)) (w.heap.size + 1) i0.size (some ⟨w.heap.size,0,none⟩) 1 cs := by
  refine ⟨by omega,fun _ => ⟨_,rfl,ztI _,fun j u hu => ?_⟩⟩;rw [show (⟨w.heap.size,0,none⟩ : Addr).add j = ⟨w.heap.size,j,none⟩ from by unfold Addr.add; split <;> simp_all];rw [(Blk.new w e v.cells).cell j,hcs]
  simpa using hu
 refine zcu _ hg2 s y t ho2 base e i0 z i0.size i0.bytes ht hi hz rfl rfl hzs h0 sv n xs hsv hown' _ _ 1 1 cs hy hnew h1 h63 hbytes (by simp; omega) fun v' w' q1 q2 q3 => ?_
 have hgr : w.grownBy w' sv.ownBlock := (World.grownBy_alloc w _ sv.ownBlock).trans q2;exact h v' w' _ (ztn _) q1 ((Below.refl _ _).grown hgr hbase (fun g hg => by
  rcases hown.2 with ⟨hsv0,_⟩ | ⟨g',cap,cur,hsv0,hg',_⟩
  ·rw [hsv0] at hg; simp [Value.ownBlock] at hg
  ·rw [hsv0] at hg; simp [Value.ownBlock] at hg; omega)) hgr fun b hb => by
  rcases q3 with e | e
  ·exact .inl (e ▸ hb)
  ·rw [e] at hb
   injection hb with hb
   simp at hb;exact .inr (by omega)
end
theorem RW.fin {base g bt n : Nat}{F : Nat → Prop}{p : PS}{t : TD}{w W : World}{x y : Value}{d : Int}(h : RW base g bt F t w x y x y (n + 1) (n + 1) (p.T.flatMap TD.cells ++ t.cells) (p.D.map (Value.int .i64) ++ [.int .i64 d]) W)
  (h1 : okP p.T t = true) (h2 : atT p.T t = none) (h3 : p.T.length = n) (h4 : d = zd6 p.D (zax t)) (h5 : ¬ 4000 ≤ n ∧ ¬ 256 < d)
  (hwf : WfP p) (hr : ∀ u ∈ p.T,u.wf) (ht : t.wf) (hfb : ∀ b,F b → base ≤ b) (hbase : base ≤ w.heap.size) : zc7 base g F w (putR p t) (.returned (.tuple #[.int .i64 (n : Nat),.int .i64 0])) W := by
 subst h3;have e : zcm p t = ⟨p.T ++ [t],p.D ++ [d]⟩ := by
  unfold zcm;rw [if_pos ⟨h1,h2,by omega,by rw [← h4]; omega⟩,← h4]
 have e2 : zcP p t = ((p.T.length : Int),0) := by
  unfold zcP;rw [h1,h2,← h4];simp;omega
 have hw := hwf.put t;rw [e] at hw;refine ⟨by unfold putR; rw [e2],fun b => F b ∨ (w.heap.size ≤ b ∧ b < W.heap.size),?_,h.chg,fun b q => Or.imp id And.left q⟩;show zaO W base _ g (zcm p t)
 rw [e];refine ⟨⟨x,y,h.pool,by simpa using h.rx,by simpa using h.ry,.inl h.fg,fun b q => ?_,fun b q => ?_⟩,hw,fun u hu => ?_,fun b q => ?_⟩
 ·have := (zaQ h.rx b q).2
  exact (h.ox b q).imp id fun e => ⟨by omega,this⟩
 ·have := (zaQ h.ry b q).2
  exact (h.oy b q).imp id fun e => ⟨by omega,this⟩
 ·rcases List.mem_append.1 hu with q | q
  ·exact hr u q
  ·simp at q; rw [q]; exact ht
 ·rcases q with q | q
  ·have := h.old b q
   have := h.lt;exact ⟨hfb b q,by omega⟩
  ·exact ⟨by omega,q.2⟩
end
section
theorem zca (k : Int)(w : World) : (Instr.build 147 #[(0,.int .i8 k)]).run prog w = .ok (zaw ⟨k,0,0,0,0,0,0⟩) w := run_build w 147 _ _ (by kernel_rfl)
theorem zaO.grown {w w' : World}{base g r : Nat}{F : Nat → Prop}{p : PS}(h : zaO w base F g p)(hg : w.grownBy w' (some r))(hr : ¬ F r) : zaO w' base F g p :=
 h.chg (G := fun b => b = r) (Chg.of_grown hg fun q e => .inl (by injection e with e; exact e.symm)) fun b q e => hr (e ▸ q)
theorem zdo {t : TD}(h : t.wf) : (zay t).wf := by
 unfold TD.wf I8 U64 I64 at h ⊢;unfold zay
 repeat' split
 all_goals (dsimp only; omega)
section
variable {base g : Nat}{F : Nat → Prop}{p : PS}
theorem zrI (t : TD)(ht : t.wf)(n0 : t.kind = 0)(w : World)(h : zaO w base F g p) : Calls prog 107 #[.pointer (some ⟨g,0,none⟩),zaw t] w fun e w' => e = .returned (.bool (okP p.T t)) ∧ Below w.heap.size w w' := by
 have HP := Hd h
 have HLW := Hd (zdo ht)
 have HTW := Hd ht
 have HB0 := Hd (zav w (.cells t.cells.toArray 147))
 have HX0 := Hd (Blk.new w 147 t.cells.toArray)
 have qb := fun w => zca t.kind w
 clear h ht;unfold zaw;go_enter func107,ntmps107;go_upto_region 1 with fail
 have HNF := Hd (fun b (hb : w.heap.size ≤ b) (q : F b) => by have := (HP.out.fb b q).2; omega : ∀ b,w.heap.size ≤ b → ¬ F b)
 have HP0 := Hd (HP.out.below HB0.out)
 generalize w.alloc (.cells t.cells.toArray 147) = w1 at HB0 HX0 HP0 ⊢;obtain ⟨bx,hbx⟩ : ∃ b,w.heap.size = b := ⟨_,rfl⟩;have HBX := Hd hbx
 rw [hbx] at HX0 ⊢;clear hbx;have HLT := Hd (show bx < w1.heap.size from HX0.out.lt)
 have q0 := HX0.out.cell 0;simp [TD.cells] at q0;go_upto_region 2 with fail
 have HY := Hd (Blk.new w1 147 #[.int .i8 0,.int .i8 0,.int .i8 0,.int .u64 0,.int .i64 0,.int .i64 0,.int .i64 0])
 have HL := Hd (zav w1 (.cells #[.int .i8 0,.int .i8 0,.int .i8 0,.int .u64 0,.int .i64 0,.int .i64 0,.int .i64 0] 147))
 generalize w1.alloc (.cells #[.int .i8 0,.int .i8 0,.int .i8 0,.int .u64 0,.int .i64 0,.int .i64 0,.int .i64 0] 147) = w2 at HY HL ⊢;have HB := Hd (HB0.out.trans (HL.out.mono HB0.out.size))
 replace HX0 := Hd (HX0.out.below HL.out HX0.out.lt)
 replace HP0 := Hd (HP0.out.below HL.out)
 have HNB := Hd (show bx < w1.heap.size ∧ ¬ F w1.heap.size ∧ w.heap.size ≤ w1.heap.size from ⟨HLT.out,HNF.out _ HB0.out.size,HB0.out.size⟩)
 obtain ⟨b5,hb5⟩ : ∃ b,w1.heap.size = b := ⟨_,rfl⟩;rw [hb5] at HY HNB ⊢;clear hb5 HL HB0 HLT q0;have q0 := HX0.out.cell 0;simp [TD.cells] at q0;have q3 := HX0.out.cell 3;simp [TD.cells] at q3;go_upto_region 5 with (first
  | (refine zaa rfl 31 (.tmp 17) (.tmp 16) rfl b5 3 147 [.int .i8 0,.int .i8 0,.int .i8 0,.int .u64 0,.int .i64 0,.int .i64 0,.int .i64 0] [.int .u64 t.n] (.int .u64 t.n) HY.out (by rfl) (by rfl) rfl (by kernel_rfl) (by simp) (by simp [Value.oneCell']) ?_
     intro wn Gn Ln Zn;have HYn := Hd (by have h := Gn; simp [zaM] at h; exact h : Blk wn b5 147 #[.int .i8 0,.int .i8 0,.int .i8 0,.int .u64 t.n,.int .i64 0,.int .i64 0,.int .i64 0])
     have HXn := Hd (HX0.out.grown Ln (fun e => by injection e with e; have := HNB.out.1; omega))
     have HPn := Hd (HP0.out.grown Ln HNB.out.2.1)
     have HBn := Hd (HB.out.grown Ln HB.out.size (fun b q => by injection q with q; have := HNB.out.2.2; omega))
     clear Gn Ln Zn)
  | fail)
 clear q3 HY HX0 HP0 HB;clear q0;have HY := HYn;have HX0 := HXn;have HP0 := HPn;have HB := HBn;clear HYn HXn HPn HBn;have HYL := Hd (by have h := HY.out; unfold zay; rw [if_pos n0]; exact h : Blk _ b5 147 (zay t).cells.toArray)
 have heq := fun w => zfg HTW.out HLW.out w
 obtain ⟨dl,hdl⟩ : ∃ d,decide (t = zay t) = d := ⟨_,rfl⟩;have HDL := Hd hdl
 rw [hdl] at heq;clear hdl;have tok1 := True.intro;have tok2 := True.intro;go_wp2_with (first|(clear tok1;refine lT 3 t HX0.out ?_)|(clear tok2;refine lT 5 (zay t) HYL.out ?_)|fail)
 go_ret;exact ⟨by unfold okP okF zcl zax zaI; simp [n0,HDL.out],HB.out⟩
end
end
section
section
variable {base g : Nat}{F : Nat → Prop}{p : PS}
theorem zrJ (t : TD)(ht : t.wf)(n0 : t.kind = 2)(w : World)(h : zaO w base F g p) : Calls prog 107 #[.pointer (some ⟨g,0,none⟩),zaw t] w fun e w' => e = .returned (.bool (okP p.T t)) ∧ Below w.heap.size w w' := by
 have HP := Hd h
 have HLW := Hd (zdo ht)
 have HTW := Hd ht
 have HB0 := Hd (zav w (.cells t.cells.toArray 147))
 have HX0 := Hd (Blk.new w 147 t.cells.toArray)
 have qb := fun w => zca t.kind w
 clear h ht;unfold zaw;go_enter func107,ntmps107;go_upto_region 1 with fail
 have HNF := Hd (fun b (hb : w.heap.size ≤ b) (q : F b) => by have := (HP.out.fb b q).2; omega : ∀ b,w.heap.size ≤ b → ¬ F b)
 have HP0 := Hd (HP.out.below HB0.out)
 generalize w.alloc (.cells t.cells.toArray 147) = w1 at HB0 HX0 HP0 ⊢;obtain ⟨bx,hbx⟩ : ∃ b,w.heap.size = b := ⟨_,rfl⟩;have HBX := Hd hbx
 rw [hbx] at HX0 ⊢;clear hbx;have HLT := Hd (show bx < w1.heap.size from HX0.out.lt)
 have q0 := HX0.out.cell 0;simp [TD.cells] at q0;go_upto_region 2 with fail
 have HY := Hd (Blk.new w1 147 #[.int .i8 2,.int .i8 0,.int .i8 0,.int .u64 0,.int .i64 0,.int .i64 0,.int .i64 0])
 have HL := Hd (zav w1 (.cells #[.int .i8 2,.int .i8 0,.int .i8 0,.int .u64 0,.int .i64 0,.int .i64 0,.int .i64 0] 147))
 generalize w1.alloc (.cells #[.int .i8 2,.int .i8 0,.int .i8 0,.int .u64 0,.int .i64 0,.int .i64 0,.int .i64 0] 147) = w2 at HY HL ⊢;have HB := Hd (HB0.out.trans (HL.out.mono HB0.out.size))
 replace HX0 := Hd (HX0.out.below HL.out HX0.out.lt)
 replace HP0 := Hd (HP0.out.below HL.out)
 have HNB := Hd (show bx < w1.heap.size ∧ ¬ F w1.heap.size ∧ w.heap.size ≤ w1.heap.size from ⟨HLT.out,HNF.out _ HB0.out.size,HB0.out.size⟩)
 obtain ⟨b5,hb5⟩ : ∃ b,w1.heap.size = b := ⟨_,rfl⟩;rw [hb5] at HY HNB ⊢;clear hb5 HL HB0 HLT q0;have q0 := HX0.out.cell 0;simp [TD.cells] at q0;have q1 := HX0.out.cell 1;simp [TD.cells] at q1;go_upto_region 18 with (first
  | (refine zaa rfl 30 (.tmp 86) (.tmp 85) rfl b5 1 147 [.int .i8 2,.int .i8 0,.int .i8 0,.int .u64 0,.int .i64 0,.int .i64 0,.int .i64 0] [.int .i8 t.op] (.int .i8 t.op) HY.out (by rfl) (by rfl) rfl (by kernel_rfl) (by simp) (by simp [Value.oneCell']) ?_
     intro wn Gn Ln Zn;have HYn := Hd (by have h := Gn; simp [zaM] at h; exact h : Blk wn b5 147 #[.int .i8 2,.int .i8 t.op,.int .i8 0,.int .u64 0,.int .i64 0,.int .i64 0,.int .i64 0])
     have HXn := Hd (HX0.out.grown Ln (fun e => by injection e with e; have := HNB.out.1; omega))
     have HPn := Hd (HP0.out.grown Ln HNB.out.2.1)
     have HBn := Hd (HB.out.grown Ln HB.out.size (fun b q => by injection q with q; have := HNB.out.2.2; omega))
     clear Gn Ln Zn)
  | fail)
 clear q1 HY HX0 HP0 HB;clear q0;have HY := HYn;have HX0 := HXn;have HP0 := HPn;have HB := HBn;clear HYn HXn HPn HBn;have q2 := HX0.out.cell 2;simp [TD.cells] at q2;go_upto_region 19 with (first
  | (refine zaa rfl 30 (.tmp 89) (.tmp 88) rfl b5 2 147 [.int .i8 2,.int .i8 t.op,.int .i8 0,.int .u64 0,.int .i64 0,.int .i64 0,.int .i64 0] [.int .i8 t.w] (.int .i8 t.w) HY.out (by rfl) (by rfl) rfl (by kernel_rfl) (by simp) (by simp [Value.oneCell']) ?_
     intro wn Gn Ln Zn;have HYn := Hd (by have h := Gn; simp [zaM] at h; exact h : Blk wn b5 147 #[.int .i8 2,.int .i8 t.op,.int .i8 t.w,.int .u64 0,.int .i64 0,.int .i64 0,.int .i64 0])
     have HXn := Hd (HX0.out.grown Ln (fun e => by injection e with e; have := HNB.out.1; omega))
     have HPn := Hd (HP0.out.grown Ln HNB.out.2.1)
     have HBn := Hd (HB.out.grown Ln HB.out.size (fun b q => by injection q with q; have := HNB.out.2.2; omega))
     clear Gn Ln Zn)
  | fail)
 clear q2 HY HX0 HP0 HB;have HY := HYn;have HX0 := HXn;have HP0 := HPn;have HB := HBn;clear HYn HXn HPn HBn;have q4 := HX0.out.cell 4;simp [TD.cells] at q4;go_upto_region 20 with (first
  | (refine zaa rfl 3 (.tmp 92) (.tmp 91) rfl b5 4 147 [.int .i8 2,.int .i8 t.op,.int .i8 t.w,.int .u64 0,.int .i64 0,.int .i64 0,.int .i64 0] [.int .i64 t.a] (.int .i64 t.a) HY.out (by rfl) (by rfl) rfl (by kernel_rfl) (by simp) (by simp [Value.oneCell']) ?_
     intro wn Gn Ln Zn;have HYn := Hd (by have h := Gn; simp [zaM] at h; exact h : Blk wn b5 147 #[.int .i8 2,.int .i8 t.op,.int .i8 t.w,.int .u64 0,.int .i64 t.a,.int .i64 0,.int .i64 0])
     have HXn := Hd (HX0.out.grown Ln (fun e => by injection e with e; have := HNB.out.1; omega))
     have HPn := Hd (HP0.out.grown Ln HNB.out.2.1)
     have HBn := Hd (HB.out.grown Ln HB.out.size (fun b q => by injection q with q; have := HNB.out.2.2; omega))
     clear Gn Ln Zn)
  | fail)
 clear q4 HY HX0 HP0 HB;have HY := HYn;have HX0 := HXn;have HP0 := HPn;have HB := HBn;clear HYn HXn HPn HBn;have q5 := HX0.out.cell 5;simp [TD.cells] at q5;go_upto_region 21 with (first
  | (refine zaa rfl 3 (.tmp 95) (.tmp 94) rfl b5 5 147 [.int .i8 2,.int .i8 t.op,.int .i8 t.w,.int .u64 0,.int .i64 t.a,.int .i64 0,.int .i64 0] [.int .i64 t.b] (.int .i64 t.b) HY.out (by rfl) (by rfl) rfl (by kernel_rfl) (by simp) (by simp [Value.oneCell']) ?_
     intro wn Gn Ln Zn;have HYn := Hd (by have h := Gn; simp [zaM] at h; exact h : Blk wn b5 147 #[.int .i8 2,.int .i8 t.op,.int .i8 t.w,.int .u64 0,.int .i64 t.a,.int .i64 t.b,.int .i64 0])
     have HXn := Hd (HX0.out.grown Ln (fun e => by injection e with e; have := HNB.out.1; omega))
     have HPn := Hd (HP0.out.grown Ln HNB.out.2.1)
     have HBn := Hd (HB.out.grown Ln HB.out.size (fun b q => by injection q with q; have := HNB.out.2.2; omega))
     clear Gn Ln Zn)
  | fail)
 clear q5 HY HX0 HP0 HB;have HY := HYn;have HX0 := HXn;have HP0 := HPn;have HB := HBn;clear HYn HXn HPn HBn;have HYL := Hd (by have h := HY.out; unfold zay; rw [if_neg (by omega),if_neg (by omega),if_pos n0]; exact h : Blk _ b5 147 (zay t).cells.toArray)
 have heq := fun w => zfg HTW.out HLW.out w
 obtain ⟨dl,hdl⟩ : ∃ d,decide (t = zay t) = d := ⟨_,rfl⟩;have HDL := Hd hdl
 rw [hdl] at heq;clear hdl;have z0 := HX0.out.cell 0;have z1 := HX0.out.cell 1;have z2 := HX0.out.cell 2;have z4 := HX0.out.cell 4;have z5 := HX0.out.cell 5;have z6 := HX0.out.cell 6;simp [TD.cells] at z0 z1 z2 z4 z5 z6;have tok1 := True.intro;have tok2 := True.intro
 cases dl
 ·go_wp2_with (first|(clear tok1;refine lT 3 t HX0.out ?_)|(clear tok2;refine lT 5 (zay t) HYL.out ?_)|fail)
  go_ret;exact ⟨by unfold okP okF zcl zax zaI; simp [n0,HDL.out],HB.out⟩
 ·cases ho0 : decide (0 ≤ t.op)
  ·go_wp2_with (first|(clear tok1;refine lT 3 t HX0.out ?_)|(clear tok2;refine lT 5 (zay t) HYL.out ?_)|fail)
   go_ret;exact ⟨by unfold okP okF zcl zax zaI; simp [n0,HDL.out,ho0],HB.out⟩
  ·cases ho1 : decide (t.op ≤ 12)
   ·go_wp2_with (first|(clear tok1;refine lT 3 t HX0.out ?_)|(clear tok2;refine lT 5 (zay t) HYL.out ?_)|fail)
    go_ret;exact ⟨by unfold okP okF zcl zax zaI; simp [n0,HDL.out,ho0,ho1],HB.out⟩
   ·cases q32 : (t.w == 32)
    ·cases q64 : (t.w == 64)
     ·go_wp2_with (first|(clear tok1;refine lT 3 t HX0.out ?_)|(clear tok2;refine lT 5 (zay t) HYL.out ?_)|fail)
      go_ret;exact ⟨by unfold okP okF zcl zax zaI; simp [n0,HDL.out,ho0,ho1,q32,q64],HB.out⟩
     ·cases ha : zal p.T t.a
      ·have Hha := Hd ha
       clear ha;go_wp2_with (first|(clear tok1;refine lT 3 t HX0.out ?_)|(clear tok2;refine lT 5 (zay t) HYL.out ?_)|fail)
       refine (zaL t.a HP0.out).mono ?_;rintro e w' ⟨rfl,rfl⟩;rw [Hha.out];go_wp2;go_ret;exact ⟨by unfold okP okF zcl zax zaI; simp [n0,HDL.out,ho0,ho1,q32,q64,Hha.out],HB.out⟩
      ·have Hha := Hd ha
       clear ha;go_wp2_with (first|(clear tok1;refine lT 3 t HX0.out ?_)|(clear tok2;refine lT 5 (zay t) HYL.out ?_)|fail)
       refine (zaL t.a HP0.out).mono ?_;rintro e w' ⟨rfl,rfl⟩;rw [Hha.out]
       cases hb : zal p.T t.b
       ·have Hhb := Hd hb
        clear hb;go_wp2_with (first|(clear tok1;refine lT 3 t HX0.out ?_)|(clear tok2;refine lT 5 (zay t) HYL.out ?_)|fail)
        refine (zaL t.b HP0.out).mono ?_;rintro e w' ⟨rfl,rfl⟩;rw [Hhb.out];go_wp2;go_ret;exact ⟨by unfold okP okF zcl zax zaI; simp [n0,HDL.out,ho0,ho1,q32,q64,Hha.out,Hhb.out],HB.out⟩
       ·have Hhb := Hd hb
        clear hb;go_wp2_with (first|(clear tok1;refine lT 3 t HX0.out ?_)|(clear tok2;refine lT 5 (zay t) HYL.out ?_)|fail)
        refine (zaL t.b HP0.out).mono ?_;rintro e w' ⟨rfl,rfl⟩;rw [Hhb.out];go_wp2;go_ret;exact ⟨by unfold okP okF zcl zax zaI; simp [n0,HDL.out,ho0,ho1,q32,q64,Hha.out,Hhb.out],HB.out⟩
    ·cases ha : zal p.T t.a
     ·have Hha := Hd ha
      clear ha;go_wp2_with (first|(clear tok1;refine lT 3 t HX0.out ?_)|(clear tok2;refine lT 5 (zay t) HYL.out ?_)|fail)
      refine (zaL t.a HP0.out).mono ?_;rintro e w' ⟨rfl,rfl⟩;rw [Hha.out];go_wp2;go_ret;exact ⟨by unfold okP okF zcl zax zaI; simp [n0,HDL.out,ho0,ho1,q32,Hha.out],HB.out⟩
     ·have Hha := Hd ha
      clear ha;go_wp2_with (first|(clear tok1;refine lT 3 t HX0.out ?_)|(clear tok2;refine lT 5 (zay t) HYL.out ?_)|fail)
      refine (zaL t.a HP0.out).mono ?_;rintro e w' ⟨rfl,rfl⟩;rw [Hha.out]
      cases hb : zal p.T t.b
      ·have Hhb := Hd hb
       clear hb;go_wp2_with (first|(clear tok1;refine lT 3 t HX0.out ?_)|(clear tok2;refine lT 5 (zay t) HYL.out ?_)|fail)
       refine (zaL t.b HP0.out).mono ?_;rintro e w' ⟨rfl,rfl⟩;rw [Hhb.out];go_wp2;go_ret;exact ⟨by unfold okP okF zcl zax zaI; simp [n0,HDL.out,ho0,ho1,q32,Hha.out,Hhb.out],HB.out⟩
      ·have Hhb := Hd hb
       clear hb;go_wp2_with (first|(clear tok1;refine lT 3 t HX0.out ?_)|(clear tok2;refine lT 5 (zay t) HYL.out ?_)|fail)
       refine (zaL t.b HP0.out).mono ?_;rintro e w' ⟨rfl,rfl⟩;rw [Hhb.out];go_wp2;go_ret;exact ⟨by unfold okP okF zcl zax zaI; simp [n0,HDL.out,ho0,ho1,q32,Hha.out,Hhb.out],HB.out⟩
theorem zrK (t : TD)(ht : t.wf)(n0 : t.kind = 4)(w : World)(h : zaO w base F g p) : Calls prog 107 #[.pointer (some ⟨g,0,none⟩),zaw t] w fun e w' => e = .returned (.bool (okP p.T t)) ∧ Below w.heap.size w w' := by
 have HP := Hd h
 have HLW := Hd (zdo ht)
 have HTW := Hd ht
 have HB0 := Hd (zav w (.cells t.cells.toArray 147))
 have HX0 := Hd (Blk.new w 147 t.cells.toArray)
 have qb := fun w => zca t.kind w
 clear h ht;unfold zaw;go_enter func107,ntmps107;go_upto_region 1 with fail
 have HNF := Hd (fun b (hb : w.heap.size ≤ b) (q : F b) => by have := (HP.out.fb b q).2; omega : ∀ b,w.heap.size ≤ b → ¬ F b)
 have HP0 := Hd (HP.out.below HB0.out)
 generalize w.alloc (.cells t.cells.toArray 147) = w1 at HB0 HX0 HP0 ⊢;obtain ⟨bx,hbx⟩ : ∃ b,w.heap.size = b := ⟨_,rfl⟩;have HBX := Hd hbx
 rw [hbx] at HX0 ⊢;clear hbx;have HLT := Hd (show bx < w1.heap.size from HX0.out.lt)
 have q0 := HX0.out.cell 0;simp [TD.cells] at q0;go_upto_region 2 with fail
 have HY := Hd (Blk.new w1 147 #[.int .i8 4,.int .i8 0,.int .i8 0,.int .u64 0,.int .i64 0,.int .i64 0,.int .i64 0])
 have HL := Hd (zav w1 (.cells #[.int .i8 4,.int .i8 0,.int .i8 0,.int .u64 0,.int .i64 0,.int .i64 0,.int .i64 0] 147))
 generalize w1.alloc (.cells #[.int .i8 4,.int .i8 0,.int .i8 0,.int .u64 0,.int .i64 0,.int .i64 0,.int .i64 0] 147) = w2 at HY HL ⊢;have HB := Hd (HB0.out.trans (HL.out.mono HB0.out.size))
 replace HX0 := Hd (HX0.out.below HL.out HX0.out.lt)
 replace HP0 := Hd (HP0.out.below HL.out)
 have HNB := Hd (show bx < w1.heap.size ∧ ¬ F w1.heap.size ∧ w.heap.size ≤ w1.heap.size from ⟨HLT.out,HNF.out _ HB0.out.size,HB0.out.size⟩)
 obtain ⟨b5,hb5⟩ : ∃ b,w1.heap.size = b := ⟨_,rfl⟩;rw [hb5] at HY HNB ⊢;clear hb5 HL HB0 HLT q0;have q0 := HX0.out.cell 0;simp [TD.cells] at q0;have q1 := HX0.out.cell 1;simp [TD.cells] at q1;go_upto_region 18 with (first
  | (refine zaa rfl 30 (.tmp 86) (.tmp 85) rfl b5 1 147 [.int .i8 4,.int .i8 0,.int .i8 0,.int .u64 0,.int .i64 0,.int .i64 0,.int .i64 0] [.int .i8 t.op] (.int .i8 t.op) HY.out (by rfl) (by rfl) rfl (by kernel_rfl) (by simp) (by simp [Value.oneCell']) ?_
     intro wn Gn Ln Zn;have HYn := Hd (by have h := Gn; simp [zaM] at h; exact h : Blk wn b5 147 #[.int .i8 4,.int .i8 t.op,.int .i8 0,.int .u64 0,.int .i64 0,.int .i64 0,.int .i64 0])
     have HXn := Hd (HX0.out.grown Ln (fun e => by injection e with e; have := HNB.out.1; omega))
     have HPn := Hd (HP0.out.grown Ln HNB.out.2.1)
     have HBn := Hd (HB.out.grown Ln HB.out.size (fun b q => by injection q with q; have := HNB.out.2.2; omega))
     clear Gn Ln Zn)
  | fail)
 clear q1 HY HX0 HP0 HB;clear q0;have HY := HYn;have HX0 := HXn;have HP0 := HPn;have HB := HBn;clear HYn HXn HPn HBn;have q2 := HX0.out.cell 2;simp [TD.cells] at q2;go_upto_region 19 with (first
  | (refine zaa rfl 30 (.tmp 89) (.tmp 88) rfl b5 2 147 [.int .i8 4,.int .i8 t.op,.int .i8 0,.int .u64 0,.int .i64 0,.int .i64 0,.int .i64 0] [.int .i8 t.w] (.int .i8 t.w) HY.out (by rfl) (by rfl) rfl (by kernel_rfl) (by simp) (by simp [Value.oneCell']) ?_
     intro wn Gn Ln Zn;have HYn := Hd (by have h := Gn; simp [zaM] at h; exact h : Blk wn b5 147 #[.int .i8 4,.int .i8 t.op,.int .i8 t.w,.int .u64 0,.int .i64 0,.int .i64 0,.int .i64 0])
     have HXn := Hd (HX0.out.grown Ln (fun e => by injection e with e; have := HNB.out.1; omega))
     have HPn := Hd (HP0.out.grown Ln HNB.out.2.1)
     have HBn := Hd (HB.out.grown Ln HB.out.size (fun b q => by injection q with q; have := HNB.out.2.2; omega))
     clear Gn Ln Zn)
  | fail)
 clear q2 HY HX0 HP0 HB;have HY := HYn;have HX0 := HXn;have HP0 := HPn;have HB := HBn;clear HYn HXn HPn HBn;have q4 := HX0.out.cell 4;simp [TD.cells] at q4;go_upto_region 20 with (first
  | (refine zaa rfl 3 (.tmp 92) (.tmp 91) rfl b5 4 147 [.int .i8 4,.int .i8 t.op,.int .i8 t.w,.int .u64 0,.int .i64 0,.int .i64 0,.int .i64 0] [.int .i64 t.a] (.int .i64 t.a) HY.out (by rfl) (by rfl) rfl (by kernel_rfl) (by simp) (by simp [Value.oneCell']) ?_
     intro wn Gn Ln Zn;have HYn := Hd (by have h := Gn; simp [zaM] at h; exact h : Blk wn b5 147 #[.int .i8 4,.int .i8 t.op,.int .i8 t.w,.int .u64 0,.int .i64 t.a,.int .i64 0,.int .i64 0])
     have HXn := Hd (HX0.out.grown Ln (fun e => by injection e with e; have := HNB.out.1; omega))
     have HPn := Hd (HP0.out.grown Ln HNB.out.2.1)
     have HBn := Hd (HB.out.grown Ln HB.out.size (fun b q => by injection q with q; have := HNB.out.2.2; omega))
     clear Gn Ln Zn)
  | fail)
 clear q4 HY HX0 HP0 HB;have HY := HYn;have HX0 := HXn;have HP0 := HPn;have HB := HBn;clear HYn HXn HPn HBn;have q5 := HX0.out.cell 5;simp [TD.cells] at q5;go_upto_region 21 with (first
  | (refine zaa rfl 3 (.tmp 95) (.tmp 94) rfl b5 5 147 [.int .i8 4,.int .i8 t.op,.int .i8 t.w,.int .u64 0,.int .i64 t.a,.int .i64 0,.int .i64 0] [.int .i64 t.b] (.int .i64 t.b) HY.out (by rfl) (by rfl) rfl (by kernel_rfl) (by simp) (by simp [Value.oneCell']) ?_
     intro wn Gn Ln Zn;have HYn := Hd (by have h := Gn; simp [zaM] at h; exact h : Blk wn b5 147 #[.int .i8 4,.int .i8 t.op,.int .i8 t.w,.int .u64 0,.int .i64 t.a,.int .i64 t.b,.int .i64 0])
     have HXn := Hd (HX0.out.grown Ln (fun e => by injection e with e; have := HNB.out.1; omega))
     have HPn := Hd (HP0.out.grown Ln HNB.out.2.1)
     have HBn := Hd (HB.out.grown Ln HB.out.size (fun b q => by injection q with q; have := HNB.out.2.2; omega))
     clear Gn Ln Zn)
  | fail)
 clear q5 HY HX0 HP0 HB;have HY := HYn;have HX0 := HXn;have HP0 := HPn;have HB := HBn;clear HYn HXn HPn HBn;have HYL := Hd (by have h := HY.out; unfold zay; rw [if_neg (by omega),if_neg (by omega),if_neg (by omega),if_pos n0]; exact h : Blk _ b5 147 (zay t).cells.toArray)
 have heq := fun w => zfg HTW.out HLW.out w
 obtain ⟨dl,hdl⟩ : ∃ d,decide (t = zay t) = d := ⟨_,rfl⟩;have HDL := Hd hdl
 rw [hdl] at heq;clear hdl;have z0 := HX0.out.cell 0;have z1 := HX0.out.cell 1;have z2 := HX0.out.cell 2;have z4 := HX0.out.cell 4;have z5 := HX0.out.cell 5;have z6 := HX0.out.cell 6;simp [TD.cells] at z0 z1 z2 z4 z5 z6;have tok1 := True.intro;have tok2 := True.intro
 cases dl
 ·go_wp2_with (first|(clear tok1;refine lT 3 t HX0.out ?_)|(clear tok2;refine lT 5 (zay t) HYL.out ?_)|fail)
  go_ret;exact ⟨by unfold okP okF zcl zax zaI; simp [n0,HDL.out],HB.out⟩
 ·cases ho0 : decide (0 ≤ t.op)
  ·go_wp2_with (first|(clear tok1;refine lT 3 t HX0.out ?_)|(clear tok2;refine lT 5 (zay t) HYL.out ?_)|fail)
   go_ret;exact ⟨by unfold okP okF zcl zax zaI; simp [n0,HDL.out,ho0],HB.out⟩
  ·cases ho1 : decide (t.op ≤ 10)
   ·go_wp2_with (first|(clear tok1;refine lT 3 t HX0.out ?_)|(clear tok2;refine lT 5 (zay t) HYL.out ?_)|fail)
    go_ret;exact ⟨by unfold okP okF zcl zax zaI; simp [n0,HDL.out,ho0,ho1],HB.out⟩
   ·cases q32 : (t.w == 32)
    ·cases q64 : (t.w == 64)
     ·go_wp2_with (first|(clear tok1;refine lT 3 t HX0.out ?_)|(clear tok2;refine lT 5 (zay t) HYL.out ?_)|fail)
      go_ret;exact ⟨by unfold okP okF zcl zax zaI; simp [n0,HDL.out,ho0,ho1,q32,q64],HB.out⟩
     ·cases ha : zal p.T t.a
      ·have Hha := Hd ha
       clear ha;go_wp2_with (first|(clear tok1;refine lT 3 t HX0.out ?_)|(clear tok2;refine lT 5 (zay t) HYL.out ?_)|fail)
       refine (zaL t.a HP0.out).mono ?_;rintro e w' ⟨rfl,rfl⟩;rw [Hha.out];go_wp2;go_ret;exact ⟨by unfold okP okF zcl zax zaI; simp [n0,HDL.out,ho0,ho1,q32,q64,Hha.out],HB.out⟩
      ·have Hha := Hd ha
       clear ha;go_wp2_with (first|(clear tok1;refine lT 3 t HX0.out ?_)|(clear tok2;refine lT 5 (zay t) HYL.out ?_)|fail)
       refine (zaL t.a HP0.out).mono ?_;rintro e w' ⟨rfl,rfl⟩;rw [Hha.out]
       cases hb : zal p.T t.b
       ·have Hhb := Hd hb
        clear hb;go_wp2_with (first|(clear tok1;refine lT 3 t HX0.out ?_)|(clear tok2;refine lT 5 (zay t) HYL.out ?_)|fail)
        refine (zaL t.b HP0.out).mono ?_;rintro e w' ⟨rfl,rfl⟩;rw [Hhb.out];go_wp2;go_ret;exact ⟨by unfold okP okF zcl zax zaI; simp [n0,HDL.out,ho0,ho1,q32,q64,Hha.out,Hhb.out],HB.out⟩
       ·have Hhb := Hd hb
        clear hb;go_wp2_with (first|(clear tok1;refine lT 3 t HX0.out ?_)|(clear tok2;refine lT 5 (zay t) HYL.out ?_)|fail)
        refine (zaL t.b HP0.out).mono ?_;rintro e w' ⟨rfl,rfl⟩;rw [Hhb.out];go_wp2;go_ret;exact ⟨by unfold okP okF zcl zax zaI; simp [n0,HDL.out,ho0,ho1,q32,q64,Hha.out,Hhb.out],HB.out⟩
    ·cases ha : zal p.T t.a
     ·have Hha := Hd ha
      clear ha;go_wp2_with (first|(clear tok1;refine lT 3 t HX0.out ?_)|(clear tok2;refine lT 5 (zay t) HYL.out ?_)|fail)
      refine (zaL t.a HP0.out).mono ?_;rintro e w' ⟨rfl,rfl⟩;rw [Hha.out];go_wp2;go_ret;exact ⟨by unfold okP okF zcl zax zaI; simp [n0,HDL.out,ho0,ho1,q32,Hha.out],HB.out⟩
     ·have Hha := Hd ha
      clear ha;go_wp2_with (first|(clear tok1;refine lT 3 t HX0.out ?_)|(clear tok2;refine lT 5 (zay t) HYL.out ?_)|fail)
      refine (zaL t.a HP0.out).mono ?_;rintro e w' ⟨rfl,rfl⟩;rw [Hha.out]
      cases hb : zal p.T t.b
      ·have Hhb := Hd hb
       clear hb;go_wp2_with (first|(clear tok1;refine lT 3 t HX0.out ?_)|(clear tok2;refine lT 5 (zay t) HYL.out ?_)|fail)
       refine (zaL t.b HP0.out).mono ?_;rintro e w' ⟨rfl,rfl⟩;rw [Hhb.out];go_wp2;go_ret;exact ⟨by unfold okP okF zcl zax zaI; simp [n0,HDL.out,ho0,ho1,q32,Hha.out,Hhb.out],HB.out⟩
      ·have Hhb := Hd hb
       clear hb;go_wp2_with (first|(clear tok1;refine lT 3 t HX0.out ?_)|(clear tok2;refine lT 5 (zay t) HYL.out ?_)|fail)
       refine (zaL t.b HP0.out).mono ?_;rintro e w' ⟨rfl,rfl⟩;rw [Hhb.out];go_wp2;go_ret;exact ⟨by unfold okP okF zcl zax zaI; simp [n0,HDL.out,ho0,ho1,q32,Hha.out,Hhb.out],HB.out⟩
end
end
end Go.Proofs.YtepagfkkjlbipaaGreat
