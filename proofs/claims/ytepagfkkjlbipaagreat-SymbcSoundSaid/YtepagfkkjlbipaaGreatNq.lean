/-
  Op's walk: from its boxes to the laws. Conditions: those written in each statement.
-/
import Derived.Test.YtepagfkkjlbipaaGreatKap
import Derived.RangeFuncBox
set_option linter.unusedVariables false
set_option linter.unusedSimpArgs false
set_option maxHeartbeats 64000000
set_option maxRecDepth 100000
namespace Go.Proofs.YtepagfkkjlbipaaGreat
open Tryz
open Go.RowKit
theorem opF_succ (f : Nat) (p : PS) (op x a b : Int) : opF (f + 1) p op x a b = if (hasB p.T a && hasB p.T b) = false then some (p, 0, 2) else if doOk op x = false then some (p, 0, 2) else if (bothP p x a b).2.2.2 = 0 then opL (fun q o u v => opF f q o x u v) f (bothP p x a b).1 op x (bothP p x a b).2.1 (bothP p x a b).2.2.1 else some ((bothP p x a b).1, 0, (bothP p x a b).2.2.2) := rfl
section
variable {base g : Nat} {F F1 : Nat → Prop} {w w1 w2 : World} {p p1 : PS}
theorem PG.set (h : PG base g F w F1 p1 w1) {b : Nat} (hb : ¬ F1 b) (hw : w.heap.size ≤ b) (v : Value) : PG base g F w F1 p1 (w1.setCell ⟨b, 0, none⟩ v) := by
 have hg := grownBy_setCell' w1 b v
 refine ⟨h.pool.chg (G := fun q => q = b) (Chg.of_grown hg fun q e => .inl (by injection e with e; exact e.symm)) (fun q k e => hb (e ▸ k)), ⟨hg.os.trans h.chg.os, hg.tape.trans h.chg.tape, hg.output.trans h.chg.output, Nat.le_trans h.chg.size hg.size, fun k hk hF => ?_⟩, h.new⟩
 exact (hg.block k (Nat.lt_of_lt_of_le hk h.chg.size) (fun e => by injection e with e; omega)).trans (h.chg.block k hk hF)
theorem Blk.set1 {w : World} {b : Nat} {t : TypeId} {v : Value} (v' : Value) (h : Blk w b t #[v]) : Blk (w.setCell ⟨b, 0, none⟩ v') b t #[v'] := Boxed.set v' h
theorem Blk.set2 {w : World} {b b' : Nat} {t : TypeId} {cs : Array Value} (v' : Value) (h : Blk w b t cs) (hne : b ≠ b') : Blk (w.setCell ⟨b', 0, none⟩ v') b t cs :=
 ((grownBy_setCell' w b' v').block b h.lt (fun e => hne (by injection e))).trans h
theorem operand_i64 {p : PS} (hw : WfP p) (hr : ∀ t ∈ p.T, t.wf) {a : Int} (ha : I64 a) (x : Int) : I64 (operandP p x a).2.1 ∧ WfP (operandP p x a).1 ∧ ∀ t ∈ (operandP p x a).1.T, t.wf := by
 unfold operandP
 dsimp only
 split
 ·refine ⟨putN_i64 hw _, hw.put _, fun t ht => ?_⟩
  have ht' : t ∈ (putP p (constT (cutV x (atP p.T a).n))).T := ht
  rcases putP_cases p (constT (cutV x (atP p.T a).n)) with ⟨e, _⟩ | ⟨_, _, _, _, e, _⟩
  ·rw [e] at ht'; exact hr t ht'
  ·rw [e] at ht'
   rcases List.mem_append.1 ht' with q | q
   ·exact hr t q
   ·simp at q; rw [q]; exact constT_wf (cutV_u64 (atP_wf hr a).2.2.2.1)
 ·split
  ·exact ⟨(atP_wf hr a).2.2.2.2.1, hw, hr⟩
  ·exact ⟨ha, hw, hr⟩
theorem both_i64 {p : PS} (hw : WfP p) (hr : ∀ t ∈ p.T, t.wf) {a b : Int} (ha : I64 a) (hb : I64 b) (x : Int) : I64 (bothP p x a b).2.1 ∧ I64 (bothP p x a b).2.2.1 := by
 obtain ⟨h1, h2, h3⟩ := operand_i64 hw hr ha x
 unfold bothP
 dsimp only
 split
 ·exact ⟨h1, (operand_i64 h2 h3 hb x).1⟩
 ·exact ⟨h1, by unfold I64; dsimp only; omega⟩
def Own1 (w : World) (F : Nat → Prop) (b : Nat) (t : TypeId) (v : Value) : Prop := Blk w b t #[v] ∧ ¬ F b
theorem Own1.pg {w w1 : World} {base g b : Nat} {F F1 : Nat → Prop} {p : PS} {t : TypeId} {v : Value} (h : Own1 w F b t v) (k : PG base g F w F1 p w1) : Own1 w1 F1 b t v := k.blk h.1 h.2
theorem Own1.below {w w1 : World} {b : Nat} {F : Nat → Prop} {t : TypeId} {v : Value} (h : Own1 w F b t v) (k : Below w.heap.size w w1) : Own1 w1 F b t v := ⟨h.1.below k h.1.lt, h.2⟩
theorem Own1.other {w : World} {b b' : Nat} {F : Nat → Prop} {t : TypeId} {v : Value} (v' : Value) (h : Own1 w F b t v) (hne : b ≠ b') : Own1 (w.setCell ⟨b', 0, none⟩ v') F b t v := ⟨h.1.set2 v' hne, h.2⟩
theorem Own1.set {w : World} {b : Nat} {F : Nat → Prop} {t : TypeId} {v : Value} (v' : Value) (h : Own1 w F b t v) : Own1 (w.setCell ⟨b, 0, none⟩ v') F b t v' := ⟨h.1.set1 v', h.2⟩
theorem Own1.new {w : World} {base g : Nat} {F : Nat → Prop} {p : PS} (h : PoolAt w base F g p) (t : TypeId) (v : Value) : Own1 (w.alloc (.cells #[v] t)) F w.heap.size t v := ⟨Blk.new w t #[v], fun q => by have := (h.fb _ q).2; omega⟩
theorem bl_alloc (w : World) (o : Obj) : Below w.heap.size w (w.alloc o) := (Below.refl _ _).alloc (Nat.le_refl _) _
structure O5 (g : Nat) (op x a b : Int) (b5 : Nat) (F : Nat → Prop) (w : World) : Prop where
 e5 : Own1 w F b5 50 (.pointer (some ⟨g, 0, none⟩))
 e6 : Own1 w F (b5 + 1) 30 (.int .i8 op)
 e7 : Own1 w F (b5 + 1 + 1) 30 (.int .i8 x)
 e8 : Own1 w F (b5 + 1 + 1 + 1) 3 (.int .i64 a)
 e9 : Own1 w F (b5 + 1 + 1 + 1 + 1) 3 (.int .i64 b)
section
variable {base g b5 : Nat} {op x a b : Int} {F F1 : Nat → Prop} {w w1 : World} {p : PS}
theorem O5.pg (h : O5 g op x a b b5 F w) (k : PG base g F w F1 p w1) : O5 g op x a b b5 F1 w1 := ⟨h.e5.pg k, h.e6.pg k, h.e7.pg k, h.e8.pg k, h.e9.pg k⟩
theorem O5.below (h : O5 g op x a b b5 F w) (k : Below w.heap.size w w1) : O5 g op x a b b5 F w1 := ⟨h.e5.below k, h.e6.below k, h.e7.below k, h.e8.below k, h.e9.below k⟩
theorem O5.set (h : O5 g op x a b b5 F w) (a' b' : Int) : O5 g op x a' b' b5 F ((w.setCell ⟨b5 + 1 + 1 + 1, 0, none⟩ (.int .i64 a')).setCell ⟨b5 + 1 + 1 + 1 + 1, 0, none⟩ (.int .i64 b')) :=
 ⟨(h.e5.other _ (by omega)).other _ (by omega), (h.e6.other _ (by omega)).other _ (by omega), (h.e7.other _ (by omega)).other _ (by omega), (h.e8.set _).other _ (by omega), (h.e9.other _ (by omega)).set _⟩
theorem O5.new (W : World) (hp : PoolAt W base F g p) : O5 g op x a b W.heap.size F (((((W.alloc (.cells #[.pointer (some ⟨g, 0, none⟩)] 50)).alloc (.cells #[.int .i8 op] 30)).alloc (.cells #[.int .i8 x] 30)).alloc (.cells #[.int .i64 a] 3)).alloc (.cells #[.int .i64 b] 3)) ∧
  Below W.heap.size W (((((W.alloc (.cells #[.pointer (some ⟨g, 0, none⟩)] 50)).alloc (.cells #[.int .i8 op] 30)).alloc (.cells #[.int .i8 x] 30)).alloc (.cells #[.int .i64 a] 3)).alloc (.cells #[.int .i64 b] 3)) := by
 have nf : ∀ k, W.heap.size ≤ k → ¬ F k := fun k hk q => by have := (hp.fb k q).2; omega
 have c1 := ((((Boxed.new W 50 (.pointer (some ⟨g, 0, none⟩))).alloc (.cells #[.int .i8 op] 30)).alloc (.cells #[.int .i8 x] 30)).alloc (.cells #[.int .i64 a] 3)).alloc (.cells #[.int .i64 b] 3)
 have c2 := (((Boxed.new (W.alloc (.cells #[.pointer (some ⟨g, 0, none⟩)] 50)) 30 (.int .i8 op)).alloc (.cells #[.int .i8 x] 30)).alloc (.cells #[.int .i64 a] 3)).alloc (.cells #[.int .i64 b] 3)
 have c3 := ((Boxed.new ((W.alloc (.cells #[.pointer (some ⟨g, 0, none⟩)] 50)).alloc (.cells #[.int .i8 op] 30)) 30 (.int .i8 x)).alloc (.cells #[.int .i64 a] 3)).alloc (.cells #[.int .i64 b] 3)
 have c4 := (Boxed.new (((W.alloc (.cells #[.pointer (some ⟨g, 0, none⟩)] 50)).alloc (.cells #[.int .i8 op] 30)).alloc (.cells #[.int .i8 x] 30)) 3 (.int .i64 a)).alloc (.cells #[.int .i64 b] 3)
 have c5 := Boxed.new ((((W.alloc (.cells #[.pointer (some ⟨g, 0, none⟩)] 50)).alloc (.cells #[.int .i8 op] 30)).alloc (.cells #[.int .i8 x] 30)).alloc (.cells #[.int .i64 a] 3)) 3 (.int .i64 b)
 simp only [World.size_alloc] at c1 c2 c3 c4 c5
 refine ⟨⟨⟨c1, nf _ (by omega)⟩, ⟨c2, nf _ (by omega)⟩, ⟨c3, nf _ (by omega)⟩, ⟨c4, nf _ (by omega)⟩, ⟨c5, nf _ (by omega)⟩⟩, ?_⟩
 exact (((((Below.refl _ W).alloc (Nat.le_refl _) _).alloc (by simp) _).alloc (by simp; omega) _).alloc (by simp; omega) _).alloc (by simp; omega) _
end
end
section
variable {base g : Nat}
theorem op_step (f : Nat) (hIH : OpC base g f) : OpC base g (f + 1) := by
 intro op x a b ha hb F p r hO W h hbase
 have HIH := Hd hIH
 have HA := Hd ha
 have HBI := Hd hb
 have HB := Hd hbase
 rw [opF_succ] at hO
 have HO := Hd hO
 have NF := Hd (fun k (hk : W.heap.size ≤ k) q => by have := (h.fb k q).2; omega : ∀ k, W.heap.size ≤ k → ¬ F k)
 have HP := Hd h
 have HN5 := Hd (O5.new (op := op) (x := x) (a := a) (b := b) W h)
 clear hIH ha hb hbase hO h
 go_enter func74, ntmps74
 go_upto_region 1 with fail
 generalize ((((W.alloc (.cells #[.pointer (some ⟨g, 0, none⟩)] 50)).alloc (.cells #[.int .i8 op] 30)).alloc (.cells #[.int .i8 x] 30)).alloc (.cells #[.int .i64 a] 3)).alloc (.cells #[.int .i64 b] 3) = W1 at HN5 ⊢
 have H5 := Hd HN5.out.1
 have HQ := Hd (PG.of_below HP.out HN5.out.2)
 clear HN5
 obtain ⟨b5, hb5⟩ : ∃ b, W.heap.size = b := ⟨_, rfl⟩
 rw [hb5] at H5 NF ⊢
 have c5 := H5.out.e5.1.cell 0
 have c6 := H5.out.e6.1.cell 0
 have c7 := H5.out.e7.1.cell 0
 have c8 := H5.out.e8.1.cell 0
 have c9 := H5.out.e9.1.cell 0
 simp at c5 c6 c7 c8 c9
 go_wp2_with fail
 have hb1 : Below W1.heap.size W1 (W1.alloc (.cells #[.int .i64 a, .int .i64 b] 3)) := (Below.refl _ _).alloc (Nat.le_refl _) _
 have HQ1 := Hd (HQ.out.step hb1)
 have H51 := Hd (H5.out.below hb1)
 refine (there_any [a, b] _ 2 2 _ HQ1.out.pool (reads_list W1 3 [.int .i64 a, .int .i64 b] 2 rfl) rfl (Nat.le_refl _) (by omega)).mono ?_
 rintro e W2 ⟨rfl, hb⟩
 have HQ2 := Hd (HQ1.out.step hb)
 have H52 := Hd (H51.out.below hb)
 clear hb hb1 HQ HQ1 H5 H51 c5 c6 c7 c8 c9
 have HALL := Hd (show ([a, b].all (hasB p.T)) = (hasB p.T a && hasB p.T b) by simp)
 rw [HALL.out]
 cases hh : (hasB p.T a && hasB p.T b)
 ·have hO := HO.out
  rw [if_pos hh] at hO
  injection hO with hO
  subst hO
  simp only [Bool.false_eq_true, if_false]
  go_wp2
  go_ret2
  exact RetP.same HQ2.out
 ·have hO := HO.out
  rw [if_neg (by rw [hh]; simp)] at hO
  have HO2 := Hd hO
  simp only [if_true]
  clear hO HO
  have c6 := H52.out.e6.1.cell 0
  have c7 := H52.out.e7.1.cell 0
  simp at c6 c7
  cases hd : doOk op x
  ·have hO := HO2.out
   rw [if_pos hd] at hO
   injection hO with hO
   subst hO
   have HD := Hd hd
   clear hd
   go_wp2_with fail
   refine (do_no 0 0 _ (doOk_no HD.out)).mono ?_
   rintro e W3 ⟨rfl, rfl⟩
   go_wp2
   go_ret2
   exact RetP.same HQ2.out
  ·have hO := HO2.out
   rw [if_neg (by rw [hd]; simp)] at hO
   have HO3 := Hd hO
   have HD := Hd hd
   clear hO HO2 hd
   go_wp2_with fail
   refine (do_yes 0 0 _ HD.out zero_u64).mono ?_
   rintro e W3 ⟨rfl, hb⟩
   have HQ3 := Hd (HQ2.out.step hb)
   have H53 := Hd (H52.out.below hb)
   clear hb HQ2 H52 c6 c7
   generalize doU op x 0 0 = v00
   have c5 := H53.out.e5.1.cell 0
   have c7 := H53.out.e7.1.cell 0
   have c8 := H53.out.e8.1.cell 0
   have c9 := H53.out.e9.1.cell 0
   simp at c5 c7 c8 c9
   go_upto_region 8 with fail
   have hb4 : Below W3.heap.size W3 (W3.alloc (.cells #[.pointer (some ⟨g, 0, none⟩)] 125)) := (Below.refl _ _).alloc (Nat.le_refl _) _
   have HQ4 := Hd (HQ3.out.step hb4)
   have H54 := Hd (H53.out.below hb4)
   have H15 := Hd (show Own1 (W3.alloc (.cells #[.pointer (some ⟨g, 0, none⟩)] 125)) F W3.heap.size 125 (.pointer (some ⟨g, 0, none⟩)) from ⟨Blk.new _ _ _, NF.out _ (by rw [← hb5]; exact HQ3.out.size)⟩)
   have HB15 := Hd (show b5 + 4 < W3.heap.size from H53.out.e9.1.lt)
   obtain ⟨b15, hb15⟩ : ∃ b, W3.heap.size = b := ⟨_, rfl⟩
   rw [hb15] at H15 HB15 ⊢
   clear hb4 c5 c7 c8 c9 HQ3 H53 hb15
   generalize W3.alloc (.cells #[.pointer (some ⟨g, 0, none⟩)] 125) = W4 at HQ4 H54 H15 ⊢
   have c15 := H15.out.1.cell 0
   have c7 := H54.out.e7.1.cell 0
   have c8 := H54.out.e8.1.cell 0
   have c9 := H54.out.e9.1.cell 0
   simp at c15 c7 c8 c9
   have hxw := (doOk_yes HD.out).1
   have HXW := Hd hxw
   clear hxw
   go_wp2_with fail
   refine (both_any x a b HXW.out _ HQ4.out.pool (Nat.le_trans HB.out HQ4.out.size)).mono ?_
   rintro e W5 ⟨rfl, F1, hp1⟩
   have HQ5 := Hd (HQ4.out.trans hp1)
   have H55 := Hd (H54.out.pg hp1)
   have H155 := Hd (H15.out.pg hp1)
   obtain ⟨q, hq⟩ : ∃ q, bothP p x a b = q := ⟨_, rfl⟩
   rw [hq] at HO3 HQ5 ⊢
   have HI := Hd (show I64 q.2.1 ∧ I64 q.2.2.1 from hq ▸ both_i64 HP.out.wf HP.out.rng HA.out HBI.out x)
   obtain ⟨p1, a1, b1, er⟩ := q
   clear hp1 hq c15 c7 c8 c9 HQ4 H54 H15
   dsimp only at HO3 HQ5 HI ⊢
   have c8 := H55.out.e8.1.cell 0
   have c9 := H55.out.e9.1.cell 0
   have f8 := H55.out.e8.1.frozen 0
   have f9 := H55.out.e9.1.frozen 0
   simp at c8 c9
   go_upto_region 9 with fail
   have HQ6 := Hd ((HQ5.out.set H55.out.e8.2 (by omega) (.int .i64 a1)).set H55.out.e9.2 (by omega) (.int .i64 b1))
   have H56 := Hd (H55.out.set a1 b1)
   have H156 := Hd ((H155.out.other (.int .i64 a1) (show b15 ≠ b5 + 1 + 1 + 1 by have := HB15.out; omega)).other (.int .i64 b1) (show b15 ≠ b5 + 1 + 1 + 1 + 1 by have := HB15.out; omega))
   clear HQ5 H55 H155 c8 c9 f8 f9
   generalize (W5.setCell ⟨b5 + 1 + 1 + 1, 0, none⟩ (.int .i64 a1)).setCell ⟨b5 + 1 + 1 + 1 + 1, 0, none⟩ (.int .i64 b1) = W6 at HQ6 H56 H156 ⊢
   cases her : (er == 0)
   ·have hO := HO3.out
    rw [if_neg (by simpa using her)] at hO
    injection hO with hO
    subst hO
    go_wp2
    go_ret2
    exact RetP.same HQ6.out
   ·have hO := HO3.out
    rw [if_pos (by simpa using her)] at hO
    have HO4 := Hd hO
    clear hO HO3
    have c15 := H156.out.1.cell 0
    have c8 := H56.out.e8.1.cell 0
    simp at c15 c8
    obtain ⟨sA, hsA⟩ : ∃ s, atP p1.T a1 = s := ⟨_, rfl⟩
    obtain ⟨sB, hsB⟩ : ∃ s, atP p1.T b1 = s := ⟨_, rfl⟩
    have HSA := Hd hsA
    have HSB := Hd hsB
    have HUA := Hd (show U64 sA.n from hsA ▸ (atP_wf HQ6.out.pool.rng a1).2.2.2.1)
    have HUB := Hd (show U64 sB.n from hsB ▸ (atP_wf HQ6.out.pool.rng b1).2.2.2.1)
    clear hsA hsB
    go_wp2_with fail
    refine (constant_any a1 _ HQ6.out.pool).mono ?_
    rintro e W7 ⟨rfl, hb⟩
    have HQ7 := Hd (HQ6.out.step hb)
    have H57 := Hd (H56.out.below hb)
    have H157 := Hd (H156.out.below hb)
    clear hb HQ6 H56 H156 c15 c8
    rw [HSA.out]
    go_upto_region 12 with fail
    have hbA := bl_alloc W7 (.cells #[.int .u64 sA.n] 31)
    have hbB := bl_alloc (W7.alloc (.cells #[.int .u64 sA.n] 31)) (.cells #[.bool (sA.kind == 0)] 4)
    have H17 := Hd ((Own1.new HQ7.out.pool 31 (.int .u64 sA.n)).below hbB)
    have H18 := Hd (Own1.new (HQ7.out.step hbA).pool 4 (.bool (sA.kind == 0)))
    have HQ8 := Hd ((HQ7.out.step hbA).step hbB)
    have H58 := Hd ((H57.out.below hbA).below hbB)
    have H158 := Hd ((H157.out.below hbA).below hbB)
    simp only [World.size_alloc] at H18
    obtain ⟨b17, hb17⟩ : ∃ b, W7.heap.size = b := ⟨_, rfl⟩
    rw [hb17] at H17 H18 ⊢
    clear hbA hbB HQ7 H57 H157 hb17
    generalize (W7.alloc (.cells #[.int .u64 sA.n] 31)).alloc (.cells #[.bool (sA.kind == 0)] 4) = W8 at HQ8 H58 H158 H17 H18 ⊢
    have c15 := H158.out.1.cell 0
    have c9 := H58.out.e9.1.cell 0
    simp at c15 c9
    go_wp2_with fail
    refine (constant_any b1 _ HQ8.out.pool).mono ?_
    rintro e W9 ⟨rfl, hb⟩
    have HQ9 := Hd (HQ8.out.step hb)
    have H59 := Hd (H58.out.below hb)
    have H159 := Hd (H158.out.below hb)
    replace H17 := Hd (H17.out.below hb)
    replace H18 := Hd (H18.out.below hb)
    clear hb HQ8 H58 H158 c15 c9
    rw [HSB.out]
    go_upto_region 13 with fail
    have hbA := bl_alloc W9 (.cells #[.int .u64 sB.n] 31)
    have hbB := bl_alloc (W9.alloc (.cells #[.int .u64 sB.n] 31)) (.cells #[.bool (sB.kind == 0)] 4)
    have H19 := Hd ((Own1.new HQ9.out.pool 31 (.int .u64 sB.n)).below hbB)
    have H20 := Hd (Own1.new (HQ9.out.step hbA).pool 4 (.bool (sB.kind == 0)))
    have HQ10 := Hd ((HQ9.out.step hbA).step hbB)
    have H510 := Hd ((H59.out.below hbA).below hbB)
    have H1510 := Hd ((H159.out.below hbA).below hbB)
    replace H17 := Hd ((H17.out.below hbA).below hbB)
    replace H18 := Hd ((H18.out.below hbA).below hbB)
    simp only [World.size_alloc] at H20
    obtain ⟨b19, hb19⟩ : ∃ b, W9.heap.size = b := ⟨_, rfl⟩
    rw [hb19] at H19 H20 ⊢
    clear hbA hbB HQ9 H59 H159 hb19
    generalize (W9.alloc (.cells #[.int .u64 sB.n] 31)).alloc (.cells #[.bool (sB.kind == 0)] 4) = W10 at HQ10 H510 H1510 H17 H18 H19 H20 ⊢
    go_upto_region 15 with fail
    have hbA := bl_alloc W10 (.cells #[.func (.func 114) #[] #[.pointer (some ⟨b5, 0, none⟩)]] 177)
    have hbB := bl_alloc (W10.alloc (.cells #[.func (.func 114) #[] #[.pointer (some ⟨b5, 0, none⟩)]] 177)) (.cells #[.func (.func 116) #[] #[.pointer (some ⟨b15, 0, none⟩), .pointer (some ⟨b5 + 1 + 1, 0, none⟩)]] 179)
    have H21 := Hd ((Own1.new HQ10.out.pool 177 (.func (.func 114) #[] #[.pointer (some ⟨b5, 0, none⟩)])).below hbB)
    have H22 := Hd (Own1.new (HQ10.out.step hbA).pool 179 (.func (.func 116) #[] #[.pointer (some ⟨b15, 0, none⟩), .pointer (some ⟨b5 + 1 + 1, 0, none⟩)]))
    have HQ11 := Hd ((HQ10.out.step hbA).step hbB)
    have H511 := Hd ((H510.out.below hbA).below hbB)
    have H1511 := Hd ((H1510.out.below hbA).below hbB)
    replace H17 := Hd ((H17.out.below hbA).below hbB)
    replace H18 := Hd ((H18.out.below hbA).below hbB)
    replace H19 := Hd ((H19.out.below hbA).below hbB)
    replace H20 := Hd ((H20.out.below hbA).below hbB)
    simp only [World.size_alloc] at H22
    obtain ⟨b21, hb21⟩ : ∃ b, W10.heap.size = b := ⟨_, rfl⟩
    rw [hb21] at H21 H22 ⊢
    clear hbA hbB HQ10 H510 H1510 hb21
    generalize (W10.alloc (.cells #[.func (.func 114) #[] #[.pointer (some ⟨b5, 0, none⟩)]] 177)).alloc (.cells #[.func (.func 116) #[] #[.pointer (some ⟨b15, 0, none⟩), .pointer (some ⟨b5 + 1 + 1, 0, none⟩)]] 179) = W11 at HQ11 H511 H1511 H17 H18 H19 H20 H21 H22 ⊢
    have c6 := H511.out.e6.1.cell 0
    simp at c6
    go_cut [23] from 70 to 87 (fun sv wc => sv = .pointer (some ⟨W11.heap.size, 0, none⟩) ∧ wc = W11.alloc (.cells #[.bool (turnsB op)] 4))
    case first =>
     cases h0 : (op == 0)
     rotate_left
     ·go_wp2
      go_meet
      case rel => exact ⟨rfl, by rw [show turnsB op = true by unfold turnsB; simp [h0]]⟩
     cases h2 : (op == 2)
     rotate_left
     ·go_wp2
      go_meet
      case rel => exact ⟨rfl, by rw [show turnsB op = true by unfold turnsB; simp [h0, h2]]⟩
     cases h4 : (op == 4)
     rotate_left
     ·go_wp2
      go_meet
      case rel => exact ⟨rfl, by rw [show turnsB op = true by unfold turnsB; simp [h0, h2, h4]]⟩
     cases h5 : (op == 5)
     rotate_left
     ·go_wp2
      go_meet
      case rel => exact ⟨rfl, by rw [show turnsB op = true by unfold turnsB; simp [h0, h2, h4, h5]]⟩
     cases h10 : (op == 10)
     rotate_left
     ·go_wp2
      go_meet
      case rel => exact ⟨rfl, by rw [show turnsB op = true by unfold turnsB; simp [h0, h2, h4, h5, h10]]⟩
     go_wp2
     go_meet
     case rel => exact ⟨rfl, by rw [show turnsB op = false by unfold turnsB; simp [h0, h2, h4, h5, h10]]⟩
    case rest =>
    obtain ⟨rfl, rfl⟩ := hcut
    clear c6
    have hbA := bl_alloc W11 (.cells #[.bool (turnsB op)] 4)
    have H23 := Hd (Own1.new HQ11.out.pool 4 (.bool (turnsB op)))
    have HQ12 := Hd (HQ11.out.step hbA)
    have H512 := Hd (H511.out.below hbA)
    have H1512 := Hd (H1511.out.below hbA)
    replace H17 := Hd (H17.out.below hbA)
    replace H18 := Hd (H18.out.below hbA)
    replace H19 := Hd (H19.out.below hbA)
    replace H20 := Hd (H20.out.below hbA)
    replace H21 := Hd (H21.out.below hbA)
    replace H22 := Hd (H22.out.below hbA)
    obtain ⟨b23, hb23⟩ : ∃ b, W11.heap.size = b := ⟨_, rfl⟩
    rw [hb23] at H23 ⊢
    clear hbA HQ11 H511 H1511 hb23
    generalize W11.alloc (.cells #[.bool (turnsB op)] 4) = W12 at HQ12 H512 H1512 H17 H18 H19 H20 H21 H22 H23 ⊢
    go_upto_region 16 with fail
    have c6 := H512.out.e6.1.cell 0
    simp at c6
    go_cut [24] from 88 to 97 (fun sv wc => sv = .pointer (some ⟨W12.heap.size, 0, none⟩) ∧ wc = W12.alloc (.cells #[.bool (shiftsB op)] 4))
    case first =>
     cases h6 : (op == 6)
     rotate_left
     ·go_wp2
      go_meet
      case rel => exact ⟨rfl, by rw [show shiftsB op = true by unfold shiftsB; simp [h6]]⟩
     cases h7 : (op == 7)
     rotate_left
     ·go_wp2
      go_meet
      case rel => exact ⟨rfl, by rw [show shiftsB op = true by unfold shiftsB; simp [h6, h7]]⟩
     cases h12 : (op == 12)
     rotate_left
     ·go_wp2
      go_meet
      case rel => exact ⟨rfl, by rw [show shiftsB op = true by unfold shiftsB; simp [h6, h7, h12]]⟩
     go_wp2
     go_meet
     case rel => exact ⟨rfl, by rw [show shiftsB op = false by unfold shiftsB; simp [h6, h7, h12]]⟩
    case rest =>
    obtain ⟨rfl, rfl⟩ := hcut
    clear c6
    have hbA := bl_alloc W12 (.cells #[.bool (shiftsB op)] 4)
    have H24 := Hd (Own1.new HQ12.out.pool 4 (.bool (shiftsB op)))
    have HQ13 := Hd (HQ12.out.step hbA)
    have H513 := Hd (H512.out.below hbA)
    have H1513 := Hd (H1512.out.below hbA)
    replace H17 := Hd (H17.out.below hbA)
    replace H18 := Hd (H18.out.below hbA)
    replace H19 := Hd (H19.out.below hbA)
    replace H20 := Hd (H20.out.below hbA)
    replace H21 := Hd (H21.out.below hbA)
    replace H22 := Hd (H22.out.below hbA)
    replace H23 := Hd (H23.out.below hbA)
    obtain ⟨b24, hb24⟩ : ∃ b, W12.heap.size = b := ⟨_, rfl⟩
    rw [hb24] at H24 ⊢
    clear hbA HQ12 H512 H1512 hb24
    generalize W12.alloc (.cells #[.bool (shiftsB op)] 4) = W13 at HQ13 H513 H1513 H17 H18 H19 H20 H21 H22 H23 H24 ⊢
    go_wp2_with fail
    have hbA := bl_alloc W13 (.cells (lawsL b5 (b5 + 1) (b5 + 1 + 1) (b5 + 1 + 1 + 1) (b5 + 1 + 1 + 1 + 1) b15 b17 (b17 + 1) b19 (b19 + 1) b21 (b21 + 1) b23 b24).toArray 209)
    have HQ14 := Hd (HQ13.out.step hbA)
    have H514 := Hd (H513.out.below hbA)
    have HRD := Hd (reads_list W13 209 (lawsL b5 (b5 + 1) (b5 + 1 + 1) (b5 + 1 + 1 + 1) (b5 + 1 + 1 + 1 + 1) b15 b17 (b17 + 1) b19 (b19 + 1) b21 (b21 + 1) b23 b24) 10 rfl)
    have hE : OpE g op x a1 b1 sA.n sB.n (sA.kind == 0) (sB.kind == 0) (turnsB op) (shiftsB op) b5 (b5 + 1) (b5 + 1 + 1) (b5 + 1 + 1 + 1) (b5 + 1 + 1 + 1 + 1) b15 b17 (b17 + 1) b19 (b19 + 1) b21 (b21 + 1) b23 b24 F1 (W13.alloc (.cells (lawsL b5 (b5 + 1) (b5 + 1 + 1) (b5 + 1 + 1 + 1) (b5 + 1 + 1 + 1 + 1) b15 b17 (b17 + 1) b19 (b19 + 1) b21 (b21 + 1) b23 b24).toArray 209)) :=
     ⟨H514.out.e5, H514.out.e6, H514.out.e7, H514.out.e8, H514.out.e9, H1513.out.below hbA, H17.out.below hbA, H18.out.below hbA, H19.out.below hbA, H20.out.below hbA, H21.out.below hbA, H22.out.below hbA, H23.out.below hbA, H24.out.below hbA⟩
    obtain ⟨j, hj, hno, hyes, hput⟩ := op_choose hE HQ14.out.pool (Nat.le_trans HB.out HQ14.out.size) HIH.out HSA.out HSB.out HI.out.1 HI.out.2 HD.out HO4.out
    refine (first_any _ _ 10 10 _ _ j _ rfl (by omega) (Nat.le_refl _) HRD.out hj hno hyes hput).mono ?_
    rintro e W15 ⟨n, m, rfl, hrr⟩
    have HRR := Hd hrr
    clear hrr hno hyes hput hE
    go_wp2
    go_ret2
    exact (HRR.out.from HQ14.out).ret
theorem op_all (f : Nat) : OpC base g f := by
 induction f with
 | zero => intro op x a b _ _ F p r hO; cases hO
 | succ f ih => exact op_step f ih
end
end Go.Proofs.YtepagfkkjlbipaaGreat
