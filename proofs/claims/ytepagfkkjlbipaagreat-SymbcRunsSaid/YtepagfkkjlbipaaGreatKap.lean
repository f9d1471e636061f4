/-
  Parts of the proof of SymbcRuns. Conditions: those written in each statement.
-/
import Derived.Test.YtepagfkkjlbipaaGreatKao
import Derived.RangeFuncBox
set_option linter.unusedVariables false
set_option linter.unusedSimpArgs false
set_option maxHeartbeats 64000000
set_option maxRecDepth 100000
namespace Go.Proofs.YtepagfkkjlbipaaGreat
open Go.RowKit
open Tryz
section
theorem zbu (f : Nat)(p : PS)(op x a b : Int) : opF (f + 1) p op x a b = if (zal p.T a && zal p.T b) = false then some (p,0,2) else if zdp op x = false then some (p,0,2) else if (zaj p x a b).2.2.2 = 0 then opL (fun q o u v => opF f q o x u v) f (zaj p x a b).1 op x (zaj p x a b).2.1 (zaj p x a b).2.2.1 else some ((zaj p x a b).1,0,(zaj p x a b).2.2.2) := rfl
section
variable {base g : Nat}{F F1 : Nat → Prop}{w w1 w2 : World}{p p1 : PS}
theorem PG.set (h : PG base g F w F1 p1 w1){b : Nat}(hb : ¬ F1 b)(hw : w.heap.size ≤ b)(v : Value) : PG base g F w F1 p1 (w1.setCell ⟨b,0,none⟩ v) := by
 have hg := grownBy_setCell' w1 b v;refine ⟨h.pool.chg (G := fun q => q = b) (Chg.of_grown hg fun q e => .inl (by injection e with e; exact e.symm)) (fun q k e => hb (e ▸ k)),⟨hg.os.trans h.chg.os,hg.tape.trans h.chg.tape,hg.output.trans h.chg.output,zto h.chg.size hg.size,fun k hk hF => ?_⟩,h.new⟩;exact (hg.block k (zty hk h.chg.size) (fun e => by injection e with e; omega)).trans (h.chg.block k hk hF)
theorem Blk.set1 {w : World}{b : Nat}{t : TypeId}{v : Value}(v' : Value)(h : Blk w b t #[v]) : Blk (w.setCell ⟨b,0,none⟩ v') b t #[v'] := Boxed.set v' h
theorem Blk.set2 {w : World}{b b' : Nat}{t : TypeId}{cs : Array Value}(v' : Value)(h : Blk w b t cs)(hne : b ≠ b') : Blk (w.setCell ⟨b',0,none⟩ v') b t cs :=
 ((grownBy_setCell' w b' v').block b h.lt (fun e => hne (by injection e))).trans h
theorem zbq {p : PS}(hw : WfP p)(hr : ∀ t ∈ p.T,t.wf){a : Int}(ha : I64 a)(x : Int) : I64 (zah p x a).2.1 ∧ WfP (zah p x a).1 ∧ ∀ t ∈ (zah p x a).1.T,t.wf := by
 unfold zah;dsimp only
 split
 ·refine ⟨zaY hw _,hw.put _,fun t ht => ?_⟩
  have ht' : t ∈ (zcm p (zaf (zao x (atP p.T a).n))).T := ht
  rcases za8 p (zaf (zao x (atP p.T a).n)) with ⟨e,_⟩ | ⟨_,_,_,_,e,_⟩
  ·rw [e] at ht'; exact hr t ht'
  ·rw [e] at ht'
   rcases List.mem_append.1 ht' with q | q
   ·exact hr t q
   ·simp at q; rw [q]; exact zaP (zau (zba hr a).2.2.2.1)
 ·split
  ·exact ⟨(zba hr a).2.2.2.2.1,hw,hr⟩
  ·exact ⟨ha,hw,hr⟩
theorem zez {p : PS}(hw : WfP p)(hr : ∀ t ∈ p.T,t.wf){a b : Int}(ha : I64 a)(hb : I64 b)(x : Int) : I64 (zaj p x a b).2.1 ∧ I64 (zaj p x a b).2.2.1 := by
 obtain ⟨h1,h2,h3⟩ := zbq hw hr ha x;unfold zaj;dsimp only
 split
 ·exact ⟨h1,(zbq h2 h3 hb x).1⟩
 ·exact ⟨h1,by unfold I64; dsimp only; omega⟩
def zeA (w : World)(F : Nat → Prop)(b : Nat)(t : TypeId)(v : Value) : Prop := Blk w b t #[v] ∧ ¬ F b
theorem zeA.pg {w w1 : World}{base g b : Nat}{F F1 : Nat → Prop}{p : PS}{t : TypeId}{v : Value}(h : zeA w F b t v)(k : PG base g F w F1 p w1) : zeA w1 F1 b t v := k.blk h.1 h.2
theorem zeA.below {w w1 : World}{b : Nat}{F : Nat → Prop}{t : TypeId}{v : Value}(h : zeA w F b t v)(k : Below w.heap.size w w1) : zeA w1 F b t v := ⟨h.1.below k h.1.lt,h.2⟩
theorem zeA.other {w : World}{b b' : Nat}{F : Nat → Prop}{t : TypeId}{v : Value}(v' : Value)(h : zeA w F b t v)(hne : b ≠ b') : zeA (w.setCell ⟨b',0,none⟩ v') F b t v := ⟨h.1.set2 v' hne,h.2⟩
theorem zeA.set {w : World}{b : Nat}{F : Nat → Prop}{t : TypeId}{v : Value}(v' : Value)(h : zeA w F b t v) : zeA (w.setCell ⟨b,0,none⟩ v') F b t v' := ⟨h.1.set1 v',h.2⟩
theorem zeA.new {w : World}{base g : Nat}{F : Nat → Prop}{p : PS}(h : zam w base F g p)(t : TypeId)(v : Value) : zeA (w.alloc (.cells #[v] t)) F w.heap.size t v := ⟨Blk.new w t #[v],fun q => by have := (h.fb _ q).2; omega⟩
theorem zbN (w : World)(o : Obj) : Below w.heap.size w (w.alloc o) := (Below.refl _ _).alloc (ztn _) _
structure O5 (g : Nat)(op x a b : Int)(b5 : Nat)(F : Nat → Prop)(w : World) : Prop where
 e5 : zeA w F b5 50 (.pointer (some ⟨g,0,none⟩))
 e6 : zeA w F (b5 + 1) 30 (.int .i8 op)
 e7 : zeA w F (b5 + 1 + 1) 30 (.int .i8 x)
 e8 : zeA w F (b5 + 1 + 1 + 1) 3 (.int .i64 a)
 e9 : zeA w F (b5 + 1 + 1 + 1 + 1) 3 (.int .i64 b)
section
variable {base g b5 : Nat}{op x a b : Int}{F F1 : Nat → Prop}{w w1 : World}{p : PS}
theorem O5.pg (h : O5 g op x a b b5 F w)(k : PG base g F w F1 p w1) : O5 g op x a b b5 F1 w1 := ⟨h.e5.pg k,h.e6.pg k,h.e7.pg k,h.e8.pg k,h.e9.pg k⟩
theorem O5.below (h : O5 g op x a b b5 F w)(k : Below w.heap.size w w1) : O5 g op x a b b5 F w1 := ⟨h.e5.below k,h.e6.below k,h.e7.below k,h.e8.below k,h.e9.below k⟩
theorem O5.set (h : O5 g op x a b b5 F w)(a' b' : Int) : O5 g op x a' b' b5 F ((w.setCell ⟨b5 + 1 + 1 + 1,0,none⟩ (.int .i64 a')).setCell ⟨b5 + 1 + 1 + 1 + 1,0,none⟩ (.int .i64 b')) :=
 ⟨(h.e5.other _ (by omega)).other _ (by omega),(h.e6.other _ (by omega)).other _ (by omega),(h.e7.other _ (by omega)).other _ (by omega),(h.e8.set _).other _ (by omega),(h.e9.other _ (by omega)).set _⟩
theorem O5.new (W : World)(hp : zam W base F g p) : O5 g op x a b W.heap.size F (((((W.alloc (.cells #[.pointer (some ⟨g,0,none⟩)] 50)).alloc (.cells #[.int .i8 op] 30)).alloc (.cells #[.int .i8 x] 30)).alloc (.cells #[.int .i64 a] 3)).alloc (.cells #[.int .i64 b] 3)) ∧
  Below W.heap.size W (((((W.alloc (.cells #[.pointer (some ⟨g,0,none⟩)] 50)).alloc (.cells #[.int .i8 op] 30)).alloc (.cells #[.int .i8 x] 30)).alloc (.cells #[.int .i64 a] 3)).alloc (.cells #[.int .i64 b] 3)) := by
 have nf : ∀ k,W.heap.size ≤ k → ¬ F k := fun k hk q => by have := (hp.fb k q).2; omega
 have c1 := ((((Boxed.new W 50 (.pointer (some ⟨g,0,none⟩))).alloc (.cells #[.int .i8 op] 30)).alloc (.cells #[.int .i8 x] 30)).alloc (.cells #[.int .i64 a] 3)).alloc (.cells #[.int .i64 b] 3);have c2 := (((Boxed.new (W.alloc (.cells #[.pointer (some ⟨g,0,none⟩)] 50)) 30 (.int .i8 op)).alloc (.cells #[.int .i8 x] 30)).alloc (.cells #[.int .i64 a] 3)).alloc (.cells #[.int .i64 b] 3);have c3 := ((Boxed.new ((W.alloc (.cells #[.pointer (some ⟨g,0,none⟩)] 50)).alloc (.cells #[.int .i8 op] 30)) 30 (.int .i8 x)).alloc (.cells #[.int .i64 a] 3)).alloc (.cells #[.int .i64 b] 3);have c4 := (Boxed.new (((W.alloc (.cells #[.pointer (some ⟨g,0,none⟩)] 50)).alloc (.cells #[.int .i8 op] 30)).alloc (.cells #[.int .i8 x] 30)) 3 (.int .i64 a)).alloc (.cells #[.int .i64 b] 3);have c5 := Boxed.new ((((W.alloc (.cells #[.pointer (some ⟨g,0,none⟩)] 50)).alloc (.cells #[.int .i8 op] 30)).alloc (.cells #[.int .i8 x] 30)).alloc (.cells #[.int .i64 a] 3)) 3 (.int .i64 b);simp only [World.size_alloc] at c1 c2 c3 c4 c5;refine ⟨⟨⟨c1,nf _ (by omega)⟩,⟨c2,nf _ (by omega)⟩,⟨c3,nf _ (by omega)⟩,⟨c4,nf _ (by omega)⟩,⟨c5,nf _ (by omega)⟩⟩,?_⟩;exact (((((Below.refl _ W).alloc (ztn _) _).alloc (by simp) _).alloc (by simp; omega) _).alloc (by simp; omega) _).alloc (by simp; omega) _
end
end
section
variable {base g : Nat}
theorem zqz (f : Nat)(hIH : OpC base g f) : OpC base g (f + 1) := by
 intro op x a b ha hb F p r hO W h hbase;have HIH := Hd hIH
 have HA := Hd ha
 have HBI := Hd hb
 have HB := Hd hbase
 rw [zbu] at hO;have HO := Hd hO
 have NF := Hd (fun k (hk : W.heap.size ≤ k) q => by have := (h.fb k q).2; omega : ∀ k,W.heap.size ≤ k → ¬ F k)
 have HP := Hd h
 have HN5 := Hd (O5.new (op := op) (x := x) (a := a) (b := b) W h)
 clear hIH ha hb hbase hO h;go_enter func74,ntmps74;go_upto_region 1 with fail
 generalize ((((W.alloc (.cells #[.pointer (some ⟨g,0,none⟩)] 50)).alloc (.cells #[.int .i8 op] 30)).alloc (.cells #[.int .i8 x] 30)).alloc (.cells #[.int .i64 a] 3)).alloc (.cells #[.int .i64 b] 3) = W1 at HN5 ⊢;have H5 := Hd HN5.out.1
 have HQ := Hd (PG.of_below HP.out HN5.out.2)
 clear HN5;obtain ⟨b5,hb5⟩ : ∃ b,W.heap.size = b := ⟨_,rfl⟩;rw [hb5] at H5 NF ⊢;have c5 := H5.out.e5.1.cell 0;have c6 := H5.out.e6.1.cell 0;have c7 := H5.out.e7.1.cell 0;have c8 := H5.out.e8.1.cell 0;have c9 := H5.out.e9.1.cell 0;simp at c5 c6 c7 c8 c9;go_wp2_with fail
 have hb1 : Below W1.heap.size W1 (W1.alloc (.cells #[.int .i64 a,.int .i64 b] 3)) := (Below.refl _ _).alloc (ztn _) _;have HQ1 := Hd (HQ.out.step hb1)
 have H51 := Hd (H5.out.below hb1)
 refine (zf0 [a,b] _ 2 2 _ HQ1.out.pool (zbB W1 3 [.int .i64 a,.int .i64 b] 2 rfl) rfl (ztn _) (by omega)).mono ?_;rintro e W2 ⟨rfl,hb⟩;have HQ2 := Hd (HQ1.out.step hb)
 have H52 := Hd (H51.out.below hb)
 clear hb hb1 HQ HQ1 H5 H51 c5 c6 c7 c8 c9;have HALL := Hd (show ([a,b].all (zal p.T)) = (zal p.T a && zal p.T b) by simp)
 rw [HALL.out]
 cases hh : (zal p.T a && zal p.T b)
 ·have hO := HO.out
  rw [if_pos hh] at hO;injection hO with hO
  subst hO;simp only [ztL,if_false];go_wp2;go_ret2;exact zbT.same HQ2.out
 ·have hO := HO.out
  rw [if_neg (by rw [hh]; simp)] at hO;have HO2 := Hd hO
  simp only [if_true];clear hO HO;have c6 := H52.out.e6.1.cell 0;have c7 := H52.out.e7.1.cell 0;simp at c6 c7
  cases hd : zdp op x
  ·have hO := HO2.out
   rw [if_pos hd] at hO;injection hO with hO
   subst hO;have HD := Hd hd
   clear hd;go_wp2_with fail
   refine (ztb 0 0 _ (zmE HD.out)).mono ?_;rintro e W3 ⟨rfl,rfl⟩;go_wp2;go_ret2;exact zbT.same HQ2.out
  ·have hO := HO2.out
   rw [if_neg (by rw [hd]; simp)] at hO;have HO3 := Hd hO
   have HD := Hd hd
   clear hO HO2 hd;go_wp2_with fail
   refine (zjN 0 0 _ HD.out zaA).mono ?_;rintro e W3 ⟨rfl,hb⟩;have HQ3 := Hd (HQ2.out.step hb)
   have H53 := Hd (H52.out.below hb)
   clear hb HQ2 H52 c6 c7;generalize doU op x 0 0 = v00;have c5 := H53.out.e5.1.cell 0;have c7 := H53.out.e7.1.cell 0;have c8 := H53.out.e8.1.cell 0;have c9 := H53.out.e9.1.cell 0;simp at c5 c7 c8 c9;go_upto_region 8 with fail
   have hb4 : Below W3.heap.size W3 (W3.alloc (.cells #[.pointer (some ⟨g,0,none⟩)] 125)) := (Below.refl _ _).alloc (ztn _) _;have HQ4 := Hd (HQ3.out.step hb4)
   have H54 := Hd (H53.out.below hb4)
   have H15 := Hd (show zeA (W3.alloc (.cells #[.pointer (some ⟨g,0,none⟩)] 125)) F W3.heap.size 125 (.pointer (some ⟨g,0,none⟩)) from ⟨Blk.new _ _ _,NF.out _ (by rw [← hb5]; exact HQ3.out.size)⟩)
   have HB15 := Hd (show b5 + 4 < W3.heap.size from H53.out.e9.1.lt)
   obtain ⟨b15,hb15⟩ : ∃ b,W3.heap.size = b := ⟨_,rfl⟩;rw [hb15] at H15 HB15 ⊢;clear hb4 c5 c7 c8 c9 HQ3 H53 hb15;generalize W3.alloc (.cells #[.pointer (some ⟨g,0,none⟩)] 125) = W4 at HQ4 H54 H15 ⊢;have c15 := H15.out.1.cell 0;have c7 := H54.out.e7.1.cell 0;have c8 := H54.out.e8.1.cell 0;have c9 := H54.out.e9.1.cell 0;simp at c15 c7 c8 c9;have hxw := (zbE HD.out).1;have HXW := Hd hxw
   clear hxw;go_wp2_with fail
   refine (zjX x a b HXW.out _ HQ4.out.pool (zto HB.out HQ4.out.size)).mono ?_;rintro e W5 ⟨rfl,F1,hp1⟩;have HQ5 := Hd (HQ4.out.trans hp1)
   have H55 := Hd (H54.out.pg hp1)
   have H155 := Hd (H15.out.pg hp1)
   obtain ⟨q,hq⟩ : ∃ q,zaj p x a b = q := ⟨_,rfl⟩;rw [hq] at HO3 HQ5 ⊢;have HI := Hd (show I64 q.2.1 ∧ I64 q.2.2.1 from hq ▸ zez HP.out.wf HP.out.rng HA.out HBI.out x)
   obtain ⟨p1,a1,b1,er⟩ := q;clear hp1 hq c15 c7 c8 c9 HQ4 H54 H15;dsimp only at HO3 HQ5 HI ⊢;have c8 := H55.out.e8.1.cell 0;have c9 := H55.out.e9.1.cell 0;have f8 := H55.out.e8.1.frozen 0;have f9 := H55.out.e9.1.frozen 0;simp at c8 c9;go_upto_region 9 with fail
   have HQ6 := Hd ((HQ5.out.set H55.out.e8.2 (by omega) (.int .i64 a1)).set H55.out.e9.2 (by omega) (.int .i64 b1))
   have H56 := Hd (H55.out.set a1 b1)
   have H156 := Hd ((H155.out.other (.int .i64 a1) (show b15 ≠ b5 + 1 + 1 + 1 by have := HB15.out; omega)).other (.int .i64 b1) (show b15 ≠ b5 + 1 + 1 + 1 + 1 by have := HB15.out; omega))
   clear HQ5 H55 H155 c8 c9 f8 f9;generalize (W5.setCell ⟨b5 + 1 + 1 + 1,0,none⟩ (.int .i64 a1)).setCell ⟨b5 + 1 + 1 + 1 + 1,0,none⟩ (.int .i64 b1) = W6 at HQ6 H56 H156 ⊢
   cases her : (er == 0)
   ·have hO := HO3.out
    rw [if_neg (by simpa using her)] at hO;injection hO with hO
    subst hO;go_wp2;go_ret2;exact zbT.same HQ6.out
   ·have hO := HO3.out
    rw [if_pos (by simpa using her)] at hO;have HO4 := Hd hO
    clear hO HO3;have c15 := H156.out.1.cell 0;have c8 := H56.out.e8.1.cell 0;simp at c15 c8;obtain ⟨sA,hsA⟩ : ∃ s,atP p1.T a1 = s := ⟨_,rfl⟩;obtain ⟨sB,hsB⟩ : ∃ s,atP p1.T b1 = s := ⟨_,rfl⟩;have HSA := Hd hsA
    have HSB := Hd hsB
    have HUA := Hd (show U64 sA.n from hsA ▸ (zba HQ6.out.pool.rng a1).2.2.2.1)
    have HUB := Hd (show U64 sB.n from hsB ▸ (zba HQ6.out.pool.rng b1).2.2.2.1)
    clear hsA hsB;go_wp2_with fail
    refine (zcc a1 _ HQ6.out.pool).mono ?_;rintro e W7 ⟨rfl,hb⟩;have HQ7 := Hd (HQ6.out.step hb)
    have H57 := Hd (H56.out.below hb)
    have H157 := Hd (H156.out.below hb)
    clear hb HQ6 H56 H156 c15 c8;rw [HSA.out];go_upto_region 12 with fail
    have hbA := zbN W7 (.cells #[.int .u64 sA.n] 31);have hbB := zbN (W7.alloc (.cells #[.int .u64 sA.n] 31)) (.cells #[.bool (sA.kind == 0)] 4);have H17 := Hd ((zeA.new HQ7.out.pool 31 (.int .u64 sA.n)).below hbB)
    have H18 := Hd (zeA.new (HQ7.out.step hbA).pool 4 (.bool (sA.kind == 0)))
    have HQ8 := Hd ((HQ7.out.step hbA).step hbB)
    have H58 := Hd ((H57.out.below hbA).below hbB)
    have H158 := Hd ((H157.out.below hbA).below hbB)
    simp only [World.size_alloc] at H18;obtain ⟨b17,hb17⟩ : ∃ b,W7.heap.size = b := ⟨_,rfl⟩;rw [hb17] at H17 H18 ⊢;clear hbA hbB HQ7 H57 H157 hb17;generalize (W7.alloc (.cells #[.int .u64 sA.n] 31)).alloc (.cells #[.bool (sA.kind == 0)] 4) = W8 at HQ8 H58 H158 H17 H18 ⊢;have c15 := H158.out.1.cell 0;have c9 := H58.out.e9.1.cell 0;simp at c15 c9;go_wp2_with fail
    refine (zcc b1 _ HQ8.out.pool).mono ?_;rintro e W9 ⟨rfl,hb⟩;have HQ9 := Hd (HQ8.out.step hb)
    have H59 := Hd (H58.out.below hb)
    have H159 := Hd (H158.out.below hb)
    replace H17 := Hd (H17.out.below hb)
    replace H18 := Hd (H18.out.below hb)
    clear hb HQ8 H58 H158 c15 c9;rw [HSB.out];go_upto_region 13 with fail
    have hbA := zbN W9 (.cells #[.int .u64 sB.n] 31);have hbB := zbN (W9.alloc (.cells #[.int .u64 sB.n] 31)) (.cells #[.bool (sB.kind == 0)] 4);have H19 := Hd ((zeA.new HQ9.out.pool 31 (.int .u64 sB.n)).below hbB)
    have H20 := Hd (zeA.new (HQ9.out.step hbA).pool 4 (.bool (sB.kind == 0)))
    have HQ10 := Hd ((HQ9.out.step hbA).step hbB)
    have H510 := Hd ((H59.out.below hbA).below hbB)
    have H1510 := Hd ((H159.out.below hbA).below hbB)
    replace H17 := Hd ((H17.out.below hbA).below hbB)
    replace H18 := Hd ((H18.out.below hbA).below hbB)
    simp only [World.size_alloc] at H20;obtain ⟨b19,hb19⟩ : ∃ b,W9.heap.size = b := ⟨_,rfl⟩;rw [hb19] at H19 H20 ⊢;clear hbA hbB HQ9 H59 H159 hb19;generalize (W9.alloc (.cells #[.int .u64 sB.n] 31)).alloc (.cells #[.bool (sB.kind == 0)] 4) = W10 at HQ10 H510 H1510 H17 H18 H19 H20 ⊢;go_upto_region 15 with fail
    have hbA := zbN W10 (.cells #[.func (.func 114) #[] #[.pointer (some ⟨b5,0,none⟩)]] 177);have hbB := zbN (W10.alloc (.cells #[.func (.func 114) #[] #[.pointer (some ⟨b5,0,none⟩)]] 177)) (.cells #[.func (.func 116) #[] #[.pointer (some ⟨b15,0,none⟩),.pointer (some ⟨b5 + 1 + 1,0,none⟩)]] 179);have H21 := Hd ((zeA.new HQ10.out.pool 177 (.func (.func 114) #[] #[.pointer (some ⟨b5,0,none⟩)])).below hbB)
    have H22 := Hd (zeA.new (HQ10.out.step hbA).pool 179 (.func (.func 116) #[] #[.pointer (some ⟨b15,0,none⟩),.pointer (some ⟨b5 + 1 + 1,0,none⟩)]))
    have HQ11 := Hd ((HQ10.out.step hbA).step hbB)
    have H511 := Hd ((H510.out.below hbA).below hbB)
    have H1511 := Hd ((H1510.out.below hbA).below hbB)
    replace H17 := Hd ((H17.out.below hbA).below hbB)
    replace H18 := Hd ((H18.out.below hbA).below hbB)
    replace H19 := Hd ((H19.out.below hbA).below hbB)
    replace H20 := Hd ((H20.out.below hbA).below hbB)
    simp only [World.size_alloc] at H22;obtain ⟨b21,hb21⟩ : ∃ b,W10.heap.size = b := ⟨_,rfl⟩;rw [hb21] at H21 H22 ⊢;clear hbA hbB HQ10 H510 H1510 hb21;generalize (W10.alloc (.cells #[.func (.func 114) #[] #[.pointer (some ⟨b5,0,none⟩)]] 177)).alloc (.cells #[.func (.func 116) #[] #[.pointer (some ⟨b15,0,none⟩),.pointer (some ⟨b5 + 1 + 1,0,none⟩)]] 179) = W11 at HQ11 H511 H1511 H17 H18 H19 H20 H21 H22 ⊢;have c6 := H511.out.e6.1.cell 0;simp at c6;go_cut [23] from 70 to 87 (fun sv wc => sv = .pointer (some ⟨W11.heap.size,0,none⟩) ∧ wc = W11.alloc (.cells #[.bool (zaK op)] 4))
    case first =>
     cases h0 : (op == 0);rotate_left
     ·go_wp2
      go_meet
      case rel => exact ⟨rfl,by rw [show zaK op = true by unfold zaK; simp [h0]]⟩
     cases h2 : (op == 2);rotate_left
     ·go_wp2
      go_meet
      case rel => exact ⟨rfl,by rw [show zaK op = true by unfold zaK; simp [h0,h2]]⟩
     cases h4 : (op == 4);rotate_left
     ·go_wp2
      go_meet
      case rel => exact ⟨rfl,by rw [show zaK op = true by unfold zaK; simp [h0,h2,h4]]⟩
     cases h5 : (op == 5);rotate_left
     ·go_wp2
      go_meet
      case rel => exact ⟨rfl,by rw [show zaK op = true by unfold zaK; simp [h0,h2,h4,h5]]⟩
     cases h10 : (op == 10);rotate_left
     ·go_wp2
      go_meet
      case rel => exact ⟨rfl,by rw [show zaK op = true by unfold zaK; simp [h0,h2,h4,h5,h10]]⟩
     go_wp2;go_meet
     case rel => exact ⟨rfl,by rw [show zaK op = false by unfold zaK; simp [h0,h2,h4,h5,h10]]⟩
    case rest =>
    obtain ⟨rfl,rfl⟩ := hcut;clear c6;have hbA := zbN W11 (.cells #[.bool (zaK op)] 4);have H23 := Hd (zeA.new HQ11.out.pool 4 (.bool (zaK op)))
    have HQ12 := Hd (HQ11.out.step hbA)
    have H512 := Hd (H511.out.below hbA)
    have H1512 := Hd (H1511.out.below hbA)
    replace H17 := Hd (H17.out.below hbA)
    replace H18 := Hd (H18.out.below hbA)
    replace H19 := Hd (H19.out.below hbA)
    replace H20 := Hd (H20.out.below hbA)
    replace H21 := Hd (H21.out.below hbA)
    replace H22 := Hd (H22.out.below hbA)
    obtain ⟨b23,hb23⟩ : ∃ b,W11.heap.size = b := ⟨_,rfl⟩;rw [hb23] at H23 ⊢;clear hbA HQ11 H511 H1511 hb23;generalize W11.alloc (.cells #[.bool (zaK op)] 4) = W12 at HQ12 H512 H1512 H17 H18 H19 H20 H21 H22 H23 ⊢;go_upto_region 16 with fail
    have c6 := H512.out.e6.1.cell 0;simp at c6;go_cut [24] from 88 to 97 (fun sv wc => sv = .pointer (some ⟨W12.heap.size,0,none⟩) ∧ wc = W12.alloc (.cells #[.bool (zai op)] 4))
    case first =>
     cases h6 : (op == 6);rotate_left
     ·go_wp2
      go_meet
      case rel => exact ⟨rfl,by rw [show zai op = true by unfold zai; simp [h6]]⟩
     cases h7 : (op == 7);rotate_left
     ·go_wp2
      go_meet
      case rel => exact ⟨rfl,by rw [show zai op = true by unfold zai; simp [h6,h7]]⟩
     cases h12 : (op == 12);rotate_left
     ·go_wp2
      go_meet
      case rel => exact ⟨rfl,by rw [show zai op = true by unfold zai; simp [h6,h7,h12]]⟩
     go_wp2;go_meet
     case rel => exact ⟨rfl,by rw [show zai op = false by unfold zai; simp [h6,h7,h12]]⟩
    case rest =>
    obtain ⟨rfl,rfl⟩ := hcut;clear c6;have hbA := zbN W12 (.cells #[.bool (zai op)] 4);have H24 := Hd (zeA.new HQ12.out.pool 4 (.bool (zai op)))
    have HQ13 := Hd (HQ12.out.step hbA)
    have H513 := Hd (H512.out.below hbA)
    have H1513 := Hd (H1512.out.below hbA)
    replace H17 := Hd (H17.out.below hbA)
    replace H18 := Hd (H18.out.below hbA)
    replace H19 := Hd (H19.out.below hbA)
    replace H20 := Hd (H20.out.below hbA)
    replace H21 := Hd (H21.out.below hbA)
    replace H22 := Hd (H22.out.below hbA)
    replace H23 := Hd (H23.out.below hbA)
    obtain ⟨b24,hb24⟩ : ∃ b,W12.heap.size = b := ⟨_,rfl⟩;rw [hb24] at H24 ⊢;clear hbA HQ12 H512 H1512 hb24;generalize W12.alloc (.cells #[.bool (zai op)] 4) = W13 at HQ13 H513 H1513 H17 H18 H19 H20 H21 H22 H23 H24 ⊢;go_wp2_with fail
    have hbA := zbN W13 (.cells (zl3 b5 (b5 + 1) (b5 + 1 + 1) (b5 + 1 + 1 + 1) (b5 + 1 + 1 + 1 + 1) b15 b17 (b17 + 1) b19 (b19 + 1) b21 (b21 + 1) b23 b24).toArray 209);have HQ14 := Hd (HQ13.out.step hbA)
    have H514 := Hd (H513.out.below hbA)
    have HRD := Hd (zbB W13 209 (zl3 b5 (b5 + 1) (b5 + 1 + 1) (b5 + 1 + 1 + 1) (b5 + 1 + 1 + 1 + 1) b15 b17 (b17 + 1) b19 (b19 + 1) b21 (b21 + 1) b23 b24) 10 rfl)
    have hE : OpE g op x a1 b1 sA.n sB.n (sA.kind == 0) (sB.kind == 0) (zaK op) (zai op) b5 (b5 + 1) (b5 + 1 + 1) (b5 + 1 + 1 + 1) (b5 + 1 + 1 + 1 + 1) b15 b17 (b17 + 1) b19 (b19 + 1) b21 (b21 + 1) b23 b24 F1 (W13.alloc (.cells (zl3 b5 (b5 + 1) (b5 + 1 + 1) (b5 + 1 + 1 + 1) (b5 + 1 + 1 + 1 + 1) b15 b17 (b17 + 1) b19 (b19 + 1) b21 (b21 + 1) b23 b24).toArray 209)) :=
     ⟨H514.out.e5,H514.out.e6,H514.out.e7,H514.out.e8,H514.out.e9,H1513.out.below hbA,H17.out.below hbA,H18.out.below hbA,H19.out.below hbA,H20.out.below hbA,H21.out.below hbA,H22.out.below hbA,H23.out.below hbA,H24.out.below hbA⟩
    obtain ⟨j,hj,hno,hyes,hput⟩ := zl4 hE HQ14.out.pool (zto HB.out HQ14.out.size) HIH.out HSA.out HSB.out HI.out.1 HI.out.2 HD.out HO4.out;refine (zmX _ _ 10 10 _ _ j _ rfl (by omega) (ztn _) HRD.out hj hno hyes hput).mono ?_;rintro e W15 ⟨n,m,rfl,hrr⟩;have HRR := Hd hrr
    clear hrr hno hyes hput hE;go_wp2;go_ret2;exact (HRR.out.from HQ14.out).ret
theorem zmV (f : Nat) : OpC base g f := by
 induction f with
 | zero => intro op x a b _ _ F p r hO; cases hO
 | succ f ih => exact zqz f ih
end
end
section
def zcO (b : Bool) : Int := if b = true then 1 else 0
theorem zb4 (b : Bool) : U64 (zcO b) := by unfold zcO U64; cases b <;> simp
theorem zhs (b : Bool)(w : World) : Calls prog 100 #[.bool b] w fun e w' => e = .returned (.int .u64 (zcO b)) ∧ w = w' := by
 cases b
 ·go_enter func100,ntmps100
  go_wp2;go_ret;exact ⟨rfl,rfl⟩
 ·go_enter func100,ntmps100
  go_wp2;go_ret;exact ⟨rfl,rfl⟩
def zc1 (cc : Int) : Int := if cc = 2 then 4 else if cc = 3 then 5 else if cc = 6 then 8 else if cc = 7 then 9 else cc
def zbO (cc : Int) : Bool := cc == 2 || (cc == 3 || (cc == 6 || cc == 7))
theorem zkT (cc : Int)(w : World) : Calls prog 138 #[.int .i8 cc] w fun e w' => e = .returned (.tuple #[.int .i8 (zc1 cc),.bool (zbO cc)]) ∧ w = w' := by
 cases h2 : (cc == 2);rotate_left
 ·obtain rfl : cc = 2 := by simpa using h2
  go_enter func138,ntmps138;go_wp2;go_ret2;exact ⟨rfl,rfl⟩
 cases h3 : (cc == 3);rotate_left
 ·obtain rfl : cc = 3 := by simpa using h3
  go_enter func138,ntmps138;go_wp2;go_ret2;exact ⟨rfl,rfl⟩
 cases h6 : (cc == 6);rotate_left
 ·obtain rfl : cc = 6 := by simpa using h6
  go_enter func138,ntmps138;go_wp2;go_ret2;exact ⟨rfl,rfl⟩
 cases h7 : (cc == 7);rotate_left
 ·obtain rfl : cc = 7 := by simpa using h7
  go_enter func138,ntmps138;go_wp2;go_ret2;exact ⟨rfl,rfl⟩
 have e1 : zc1 cc = cc := by unfold zc1; simp at h2 h3 h6 h7; simp [h2,h3,h6,h7]
 have e2 : zbO cc = false := by unfold zbO; simp [h2,h3,h6,h7]
 rw [e1,e2];clear e1 e2;go_enter func138,ntmps138;go_wp2;go_ret2;exact ⟨rfl,rfl⟩
def zht (cc x a b : Int) : TD := ⟨4,cc,x,0,a,b,0⟩
theorem zdB {cc x a b : Int}(ho : I8 cc)(hx : I8 x)(ha : I64 a)(hb : I64 b) : (zht cc x a b).wf := by unfold TD.wf I8 U64 I64 zht; unfold I8 at ho hx; unfold I64 at ha hb; dsimp only; exact ⟨by omega,ho,hx,by omega,ha,hb,by omega⟩
theorem ze2 (cc x a b : Int)(w : World) : (Instr.build 147 #[(0,.int .i8 4),(1,.int .i8 cc),(2,.int .i8 x),(4,.int .i64 a),(5,.int .i64 b)]).run prog w = .ok (zaw (zht cc x a b)) w := run_build w 147 _ _ (by kernel_rfl)
def zdr (cc : Int)(lf rt : Bool)(a b : Int) : Bool := (cc == 0 || (cc == 1 || cc == 10)) && (lf || (!rt && decide (b < a)))
def zeh (rec : PS → Int → Int → Int → Option RS)(p : PS)(cc x a b : Int) : Option RS :=
 let s := atP p.T a
 let y := atP p.T b
 if (s.kind == 0 && y.kind == 0) = true then some (putR p (zaf (zcO (zaJ cc x s.n y.n))))
 else if (a == b && cc != 10) = true then some (putR p (zaf (zcO (zaJ cc x 0 0))))
 else if zbO cc = true then rec p (zc1 cc) b a
 else if zdr cc (s.kind == 0) (y.kind == 0) a b = true then some (putR p (zht cc x b a))
 else some (putR p (zht cc x a b))
def zdg : Nat → PS → Int → Int → Int → Int → Option RS
 | 0,_,_,_,_,_ => none
 | f + 1,p,cc,x,a,b =>
  if (zal p.T a && zal p.T b) = false then some (p,0,2)
  else if zaW cc x = false then some (p,0,2)
  else if (zaj p x a b).2.2.2 = 0 then zeh (fun q o u v => zdg f q o x u v) (zaj p x a b).1 cc x (zaj p x a b).2.1 (zaj p x a b).2.2.1 else some ((zaj p x a b).1,0,(zaj p x a b).2.2.2)
theorem zby (f : Nat)(p : PS)(cc x a b : Int) : zdg (f + 1) p cc x a b = if (zal p.T a && zal p.T b) = false then some (p,0,2)
 else if zaW cc x = false then some (p,0,2)
 else if (zaj p x a b).2.2.2 = 0 then zeh (fun q o u v => zdg f q o x u v) (zaj p x a b).1 cc x (zaj p x a b).2.1 (zaj p x a b).2.2.1 else some ((zaj p x a b).1,0,(zaj p x a b).2.2.2) := rfl
def zqA (base g f : Nat) : Prop := ∀ (cc x a b : Int) (ha : I64 a) (hb : I64 b) (F : Nat → Prop) (p : PS) (r : RS) (hO : zdg f p cc x a b = some r) (W : World) (h : zam W base F g p) (hbase : base ≤ W.heap.size),
 Calls prog 82 #[.pointer (some ⟨g,0,none⟩),.int .i8 cc,.int .i8 x,.int .i64 a,.int .i64 b] W (zbT base g F W r)
section
variable {base g : Nat}
theorem zmW (f : Nat)(hIH : zqA base g f) : zqA base g (f + 1) := by
 intro cc x a b ha hb F p r hO W h hbase;have HIH := Hd hIH
 have HA := Hd ha
 have HBI := Hd hb
 have HB := Hd hbase
 rw [zby] at hO;have HO := Hd hO
 have HP := Hd h
 clear hIH ha hb hbase hO h;have hb1 := zbN W (.cells #[.int .i64 a,.int .i64 b] 3);have HQ1 := Hd (PG.of_below HP.out hb1)
 go_enter func82,ntmps82;go_wp2_with fail
 refine (zf0 [a,b] _ 2 2 _ HQ1.out.pool (zbB W 3 [.int .i64 a,.int .i64 b] 2 rfl) rfl (ztn _) (by omega)).mono ?_;rintro e W2 ⟨rfl,hb⟩;have HQ2 := Hd (HQ1.out.step hb)
 clear hb hb1 HQ1;have HALL := Hd (show ([a,b].all (zal p.T)) = (zal p.T a && zal p.T b) by simp)
 rw [HALL.out]
 cases hh : (zal p.T a && zal p.T b)
 ·have hO := HO.out
  rw [if_pos hh] at hO;injection hO with hO
  subst hO;simp only [ztL,if_false];go_wp2;go_ret2;exact zbT.same HQ2.out
 ·have hO := HO.out
  rw [if_neg (by rw [hh]; simp)] at hO;have HO2 := Hd hO
  simp only [if_true];clear hO HO
  cases hd : zaW cc x
  ·have hO := HO2.out
   rw [if_pos hd] at hO;injection hO with hO
   subst hO;have HD := Hd hd
   clear hd;go_wp2_with fail
   refine (zn1 0 0 _ HD.out).mono ?_;rintro e W3 ⟨rfl,rfl⟩;go_wp2;go_ret2;exact zbT.same HQ2.out
  ·have hO := HO2.out
   rw [if_neg (by rw [hd]; simp)] at hO;have HO3 := Hd hO
   have HD := Hd hd
   clear hO HO2 hd;have HXW := Hd (za7 HD.out).1
   have HCC := Hd (za7 HD.out).2
   go_wp2_with fail
   refine (zfN 0 0 _ HD.out).mono ?_;rintro e W3 ⟨rfl,rfl⟩;obtain ⟨h00,hh00⟩ : ∃ v,zaJ cc x 0 0 = v := ⟨_,rfl⟩;rw [hh00];have H00 := Hd hh00
   clear hh00;go_upto_region 8 with fail
   have hb4 := zbN W2 (.cells #[.pointer (some ⟨g,0,none⟩)] 125);have HQ4 := Hd (HQ2.out.step hb4)
   have H15 := Hd (zeA.new HQ2.out.pool 125 (.pointer (some ⟨g,0,none⟩)))
   obtain ⟨b15,hb15⟩ : ∃ b,W2.heap.size = b := ⟨_,rfl⟩;rw [hb15] at H15 ⊢;clear hb4 HQ2 hb15;generalize W2.alloc (.cells #[.pointer (some ⟨g,0,none⟩)] 125) = W4 at HQ4 H15 ⊢;have c15 := H15.out.1.cell 0;simp at c15;go_wp2_with fail
   refine (zjX x a b HXW.out _ HQ4.out.pool (zto HB.out HQ4.out.size)).mono ?_;rintro e W5 ⟨rfl,F1,hp1⟩;have HQ5 := Hd (HQ4.out.trans hp1)
   have H155 := Hd (H15.out.pg hp1)
   obtain ⟨q,hq⟩ : ∃ q,zaj p x a b = q := ⟨_,rfl⟩;rw [hq] at HO3 HQ5 ⊢;have HI := Hd (show I64 q.2.1 ∧ I64 q.2.2.1 from hq ▸ zez HP.out.wf HP.out.rng HA.out HBI.out x)
   obtain ⟨p1,a1,b1,er⟩ := q;clear hp1 hq c15 HQ4 H15;dsimp only at HO3 HQ5 HI ⊢
   cases her : (er == 0)
   ·have hO := HO3.out
    rw [if_neg (by simpa using her)] at hO;injection hO with hO
    subst hO;go_wp2;go_ret2;exact zbT.same HQ5.out
   ·have hO := HO3.out
    rw [if_pos (by simpa using her)] at hO;obtain ⟨sA,hsA⟩ : ∃ s,atP p1.T a1 = s := ⟨_,rfl⟩;obtain ⟨sB,hsB⟩ : ∃ s,atP p1.T b1 = s := ⟨_,rfl⟩;unfold zeh at hO;rw [hsA,hsB] at hO;dsimp only at hO;have HO4 := Hd hO
    have HSA := Hd hsA
    have HSB := Hd hsB
    clear hO HO3 hsA hsB;have c15 := H155.out.1.cell 0;simp at c15;go_wp2_with fail
    refine (zcc a1 _ HQ5.out.pool).mono ?_;rintro e W7 ⟨rfl,hb⟩;have HQ7 := Hd (HQ5.out.step hb)
    have H157 := Hd (H155.out.below hb)
    clear hb HQ5 H155 c15;rw [HSA.out];have c15 := H157.out.1.cell 0;simp at c15;go_wp2_with fail
    refine (zcc b1 _ HQ7.out.pool).mono ?_;rintro e W9 ⟨rfl,hb⟩;have HQ9 := Hd (HQ7.out.step hb)
    clear hb HQ7 H157 c15;rw [HSB.out];have hbs : base ≤ W9.heap.size := zto HB.out HQ9.out.size;obtain ⟨lf,hlf⟩ : ∃ v,(sA.kind == 0) = v := ⟨_,rfl⟩;obtain ⟨rt,hrt⟩ : ∃ v,(sB.kind == 0) = v := ⟨_,rfl⟩;rw [hlf,hrt] at HO4 ⊢;clear hlf hrt;obtain ⟨sw,hsw0⟩ : ∃ s,zdr cc lf rt a1 b1 = s := ⟨_,rfl⟩;have HSW := Hd hsw0
    clear hsw0;have lr4 : (lf = true ∧ rt = true) ∨ (lf = false ∧ rt = false) ∨ (lf = false ∧ rt = true) ∨ (lf = true ∧ rt = false) := by cases lf <;> cases rt <;> simp
    have key : (a1 == b1) = false ∨ (a1 == b1) = true ∧ (cc == 10) = true ∧ (cc != 10) = false ∨ (a1 == b1) = true ∧ (cc == 10) = false ∧ (cc != 10) = true := by cases h : (a1 == b1) <;> cases h2 : (cc == 10) <;> simp [bne,h2]
    rcases lr4 with ⟨rfl,rfl⟩ | ⟨rfl,rfl⟩ | ⟨rfl,rfl⟩ | ⟨rfl,rfl⟩
    ·clear key HSW
     have hO := HO4.out;rw [if_pos (show (true && true) = true from rfl)] at hO;injection hO with hO
     subst hO;go_wp2_with fail
     refine (zfN sA.n sB.n _ HD.out).mono ?_;rintro e W10 ⟨rfl,rfl⟩;go_wp2_with fail
     refine (zhs (zaJ cc x sA.n sB.n) _).mono ?_;rintro e W10 ⟨rfl,rfl⟩;go_wp2_with fail
     refine (zb1 _ (zb4 _) _ HQ9.out.pool hbs).mono ?_;rintro e W11 ⟨rfl,hr⟩;have HR := Hd hr
     clear hr;go_wp2;go_ret2;exact zbT.from HQ9.out ⟨rfl,HR.out⟩
    all_goals
     rcases key with hab | ⟨hab,hcc10,hn10⟩ | ⟨hab,hcc10,hn10⟩
     rotate_left 2
     ·have hO := HO4.out
      rw [if_neg (by simp),if_pos (by rw [hab,hn10]; rfl),H00.out] at hO;injection hO with hO
      subst hO;go_wp2_with fail
      refine (zhs h00 _).mono ?_;rintro e W10 ⟨rfl,rfl⟩;go_wp2_with fail
      refine (zb1 _ (zb4 _) _ HQ9.out.pool hbs).mono ?_;rintro e W11 ⟨rfl,hr⟩;have HR := Hd hr
      clear hr;go_wp2;go_ret2;exact zbT.from HQ9.out ⟨rfl,HR.out⟩
     all_goals
      have HAB := Hd (show (a1 == b1 && cc != 10) = false by first | simp [hab,hn10] | simp [hab])
      go_wp2_with fail
      refine (zkT cc _).mono ?_;rintro e W10 ⟨rfl,rfl⟩
      cases ht : zbO cc;rotate_left
      ·have hO := HO4.out
       rw [if_neg (by simp),if_neg (by rw [HAB.out]; simp),if_pos ht] at hO;have HREC := Hd hO
       clear hO;go_wp2_with fail
       refine (HIH.out (zc1 cc) x b1 a1 HI.out.2 HI.out.1 F1 p1 r HREC.out _ HQ9.out.pool hbs).mono ?_;rintro e W12 ⟨rfl,hr⟩;have HR := Hd hr
       clear hr;go_wp2;go_ret2;exact zbT.from HQ9.out ⟨rfl,HR.out⟩
      have HT := Hd ht
      clear ht;go_upto_region 21 with fail
      go_cut [133] from 112 to 132 (fun sv wc => sv = .bool sw ∧ wc = W9)
      case first =>
       have k4 : (cc == 0) = true ∨ (cc == 0) = false ∧ (cc == 1) = true ∨ (cc == 0) = false ∧ (cc == 1) = false ∧ (cc == 10) = true ∨ (cc == 0) = false ∧ (cc == 1) = false ∧ (cc == 10) = false := by cases (cc == 0) <;> cases (cc == 1) <;> cases (cc == 10) <;> simp
       rcases k4 with h0 | ⟨h0,h1⟩ | ⟨h0,h1,h10⟩ | ⟨h0,h1,h10⟩
       all_goals cases hlt : decide (b1 < a1)
       all_goals
        go_wp2;go_meet
        case rel => first | exact absurd (h10.symm.trans hcc10) (by decide) | exact ⟨by rw [← HSW.out]; unfold zdr; first | simp [h0,h1,h10,hlt] | simp [h0,h1,hlt] | simp [h0,hlt],rfl⟩
      case rest =>
       obtain ⟨rfl,rfl⟩ := hcut
       cases sw
       ·have hO := HO4.out
        rw [if_neg (by simp),if_neg (by rw [HAB.out]; simp),if_neg (by rw [HT.out]; simp),if_neg (by rw [HSW.out]; simp)] at hO;injection hO with hO
        subst hO;have HWF := Hd (zdB (by unfold I8; have := HCC.out; omega : I8 cc) (by unfold I8; have := HXW.out; omega : I8 x) HI.out.1 HI.out.2)
        have qb := fun (w : World) => ze2 cc x a1 b1 w
        go_wp2_with fail
        refine (zkH _ HWF.out _ HQ9.out.pool hbs).mono ?_;rintro e W12 ⟨rfl,hr⟩;have HR := Hd hr
        clear hr;go_wp2;go_ret2;exact zbT.from HQ9.out ⟨rfl,HR.out⟩
       ·have hO := HO4.out
        rw [if_neg (by simp),if_neg (by rw [HAB.out]; simp),if_neg (by rw [HT.out]; simp),if_pos HSW.out] at hO;injection hO with hO
        subst hO;have HWF := Hd (zdB (by unfold I8; have := HCC.out; omega : I8 cc) (by unfold I8; have := HXW.out; omega : I8 x) HI.out.2 HI.out.1)
        have qb := fun (w : World) => ze2 cc x b1 a1 w
        go_wp2_with fail
        refine (zkH _ HWF.out _ HQ9.out.pool hbs).mono ?_;rintro e W12 ⟨rfl,hr⟩;have HR := Hd hr
        clear hr;go_wp2;go_ret2;exact zbT.from HQ9.out ⟨rfl,HR.out⟩
theorem zjV (f : Nat) : zqA base g f := by
 induction f with
 | zero => intro cc x a b _ _ F p r hO; cases hO
 | succ f ih => exact zmW f ih
end
end
section
def evT (vs : List Int)(t : TD)(rec : Int → Option Int) : Option Int :=
 if t.kind = 1 then (vs[t.n.toNat]?).map (zao t.w)
 else if t.kind = 3 then (rec t.a).map (zao t.w)
 else if t.kind = 2 then (rec t.a).bind fun a => (rec t.b).map fun b => doU t.op t.w a b
 else if t.kind = 4 then (rec t.a).bind fun a => (rec t.b).map fun b => zcO (zaJ t.op t.w a b)
 else if t.kind = 5 then (rec t.a).bind fun a => (rec t.b).bind fun b => (rec t.c).map fun c => if a = 0 then c else b
 else some t.n
def evF (T : List TD)(vs : List Int) : Nat → Int → Option Int
 | 0,_ => none
 | f + 1,n => if zal T n = false then none else evT vs (atP T n) (evF T vs f)
def evP (T : List TD)(vs : List Int)(n : Int) : Option Int := evF T vs (n.toNat + 1) n
theorem zeB (vs : List Int)(t : TD){r1 r2 : Int → Option Int}(h : ∀ k ∈ zax t,r1 k = r2 k) : evT vs t r1 = evT vs t r2 := by
 unfold zax at h;unfold evT
 by_cases h1 : t.kind = 1
 ·rw [if_pos h1,if_pos h1]
 rw [if_neg h1,if_neg h1]
 by_cases h3 : t.kind = 3
 ·rw [if_pos h3,if_pos h3,h t.a (by simp [h3])]
 rw [if_neg h3,if_neg h3]
 by_cases h2 : t.kind = 2
 ·rw [if_pos h2,if_pos h2,h t.a (by simp [h2]),h t.b (by simp [h2])]
 rw [if_neg h2,if_neg h2]
 by_cases h4 : t.kind = 4
 ·rw [if_pos h4,if_pos h4,h t.a (by simp [h4]),h t.b (by simp [h4])]
 rw [if_neg h4,if_neg h4]
 by_cases h5 : t.kind = 5
 ·rw [if_pos h5,if_pos h5,h t.a (by simp [h5]),h t.b (by simp [h5]),h t.c (by simp [h5])]
 rw [if_neg h5,if_neg h5]
section
variable {p : PS}(hw : WfP p){vs : List Int}
include hw
theorem zcD {n k : Int}(hn : zal p.T n = true)(hk : k ∈ zax (atP p.T n)) : 0 ≤ k ∧ k < n := by
 unfold atP at hk;rw [if_pos hn] at hk;unfold zal at hn;simp at hn;have hl : n.toNat < p.T.length := by omega
 have ht : p.T[n.toNat]? = some (p.T.getD n.toNat zbi) := by rw [zts,ztq hl]; rfl
 have := hw.part _ _ ht k hk;omega
theorem zoO : ∀ (f g : Nat) (n : Int),n.toNat < f → n.toNat < g → evF p.T vs f n = evF p.T vs g n := by
 intro f
 induction f with
 | zero => intro g n hn; omega
 | succ f ih =>
  intro g n hn hg
  cases g with
  | zero => omega
  | succ g =>
   show (if zal p.T n = false then none else evT vs (atP p.T n) (evF p.T vs f)) = (if zal p.T n = false then none else evT vs (atP p.T n) (evF p.T vs g))
   cases hb : zal p.T n
   ·rfl
   ·simp only [Bool.true_eq_false,if_false]
    refine zeB vs _ fun k hk => ?_
    have hk2 := zcD hw hb hk;exact ih g k (by omega) (by omega)
theorem zds {n : Int}(hn : zal p.T n = true) : evP p.T vs n = evT vs (atP p.T n) (evP p.T vs) := by
 unfold evP;show (if zal p.T n = false then none else evT vs (atP p.T n) (evF p.T vs n.toNat)) = _
 rw [if_neg (by rw [hn]; simp)];refine zeB vs _ fun k hk => ?_
 have hk2 := zcD hw hn hk;exact zoO hw _ _ k (by omega) (by omega)
end
theorem zjW {T : List TD}{vs : List Int}{n : Int}(hn : zal T n = false) : evP T vs n = none := by
 unfold evP;show (if zal T n = false then none else _) = none
 rw [if_pos hn]
theorem zqB {vs : List Int}(hv : ∀ v ∈ vs,U64 v){t : TD}(ht : t.wf){rec : Int → Option Int}(hr : ∀ k v,rec k = some v → U64 v){v : Int}(h : evT vs t rec = some v) : U64 v := by
 unfold evT at h
 split at h
 ·rw [ztC] at h
  obtain ⟨a,ha,rfl⟩ := h;exact zau (hv a (ztv ha))
 split at h
 ·rw [ztC] at h
  obtain ⟨a,ha,rfl⟩ := h;exact zau (hr _ _ ha)
 split at h
 ·rw [ztQ] at h
  obtain ⟨a,ha,h⟩ := h;rw [ztC] at h;obtain ⟨b,hb,rfl⟩ := h;exact zau (zfV (zau (hr _ _ ha)) (zau (hr _ _ hb)))
 split at h
 ·rw [ztQ] at h
  obtain ⟨a,ha,h⟩ := h;rw [ztC] at h;obtain ⟨b,hb,rfl⟩ := h;exact zb4 _
 split at h
 ·rw [ztQ] at h
  obtain ⟨a,ha,h⟩ := h;rw [ztQ] at h;obtain ⟨b,hb,h⟩ := h;rw [ztC] at h;obtain ⟨c,hc,rfl⟩ := h
  split
  ·exact hr _ _ hc
  ·exact hr _ _ hb
 ·injection h with h
  subst h;exact ht.2.2.2.1
theorem zqC {T : List TD}(hT : ∀ t ∈ T,t.wf){vs : List Int}(hv : ∀ v ∈ vs,U64 v) : ∀ (f : Nat) (n v : Int),evF T vs f n = some v → U64 v := by
 intro f
 induction f with
 | zero => intro n v h; cases h
 | succ f ih =>
  intro n v h;have h' : (if zal T n = false then none else evT vs (atP T n) (evF T vs f)) = some v := h
  split at h'
  ·cases h'
  ·exact zqB hv (zba hT n) ih h'
theorem zc2 {T : List TD}(hT : ∀ t ∈ T,t.wf){vs : List Int}(hv : ∀ v ∈ vs,U64 v){n v : Int}(h : evP T vs n = some v) : U64 v := zqC hT hv _ n v h
end
end Go.Proofs.YtepagfkkjlbipaaGreat
