/-
  Contracts of norm's narrow, Narrow, operand, both, zext, Zext. Conditions: those written in each statement.
  Contracts of norm's both, zext, Zext, Narrow. Conditions: those written in each statement.
-/
import Derived.Test.YtepagfkkjlbipaaGreatNe
import Derived.Test.YtepagfkkjlbipaaGreatKag
import Derived.BigRegion
import Derived.RegionTactic
section
namespace Go.Proofs.YtepagfkkjlbipaaGreat
open Go.RowKit
set_option linter.unusedVariables false
set_option linter.unusedSimpArgs false
set_option maxRecDepth 100000
theorem cut_less {x n : Int} (hx : x = 8 ∨ x = 16 ∨ x = 32) (h : 0 ≤ n) : (n / 2 ^ x.toNat == 0) = decide (n = cutV x n) := by
 rw [Bool.eq_iff_iff]
 simp only [beq_iff_eq, decide_eq_true_eq]
 unfold cutV
 rcases hx with rfl | rfl | rfl
 ·show n / 256 = 0 ↔ _
  simp
  omega
 ·show n / 65536 = 0 ↔ _
  simp
  omega
 ·show n / 4294967296 = 0 ↔ _
  simp
  omega
theorem ret_b6 {a b : Bool} (h : a = b) : Ending.returned (.bool a) = .returned (.bool b) := by rw [h]
section
variable {base g : Nat} {F : Nat → Prop} {p : PS}
set_option maxHeartbeats 2000000 in
theorem narrow_any (k x : Int) (hx : x = 8 ∨ x = 16 ∨ x = 32 ∨ x = 64) (w : World) (h : PoolAt w base F g p) :
  Calls Tryz.prog 158 #[.agg #[.pointer (some ⟨g, 0, none⟩)], .int .i64 k, .int .i8 x] w fun e w' => e = .returned (.bool (narrowP p.T k x)) ∧ Below w.heap.size w w' := by
 obtain ⟨t, ht⟩ : ∃ t, atP p.T k = t := ⟨_, rfl⟩
 have htw : t.wf := by rw [← ht]; exact atP_wf h.rng k
 obtain ⟨r, hr⟩ : ∃ r, narrowP p.T k x = r := ⟨_, rfl⟩
 rw [hr]
 unfold narrowP at hr
 rw [ht] at hr
 have HR := hide hr
 have HT := hide ht
 have HU := hide htw.2.2.2.1
 have hb0 : Below w.heap.size w (w.alloc (.cells #[.pointer (some ⟨g, 0, none⟩)] 125)) := (Below.refl _ w).alloc (Nat.le_refl _) _
 have HP := hide (h.below hb0)
 have HB := hide hb0
 have HX0 := hide hx
 clear h hb0 ht htw hr hx
 go_enter Tryz.func158, Tryz.ntmps158
 go_wp2_with fail
 refine (at_any k _ HP.out).mono ?_
 rintro e w1 ⟨rfl, hb⟩
 have HB1 := hide (HB.out.trans (hb.mono HB.out.size))
 clear hb HP HB
 rw [HT.out]
 go_upto_region 2 with (first
  | (refine wpList_store_new rfl 147 (.tmp 7) (.tmp 10) rfl _ t.cells (termV t) (by rfl) (by rfl) rfl sizT rfl (TD.one _) ?_
     intro w5 G5 L5 Z5
     have HX := hide G5
     have HB2 := hide (HB1.out.trans (L5.mono HB1.out.size))
     clear G5 L5 Z5)
  | fail)
 have b0 := HX.out.cell 0
 have b2 := HX.out.cell 2
 have b3 := HX.out.cell 3
 simp [TD.cells] at b0 b2 b3
 cases h64 : (x == 64)
 ·cases h4 : (t.kind == 4)
  ·have hx0 : (0 : Int) ≤ x := by have := HX0.out; omega
   have hx1 : x < 64 := by have := HX0.out; simp at h64; omega
   cases hk0 : (t.kind == 0)
   ·cases hk3 : (t.kind == 3)
    ·cases hk1 : (t.kind == 1)
     ·cases hk2 : (t.kind == 2)
      ·go_wp2
       go_ret
       exact ⟨ret_b6 (by rw [← HR.out]; simp at h64 h4 hk0 hk3 hk1 hk2; simp [h64, h4, hk0, hk3, hk1, hk2]), HB2.out⟩
      ·cases hw : (t.w == 32)
       ·go_wp2
        go_ret
        exact ⟨ret_b6 (by rw [← HR.out]; simp at h64 h4 hk0 hk3 hk1 hk2 hw; simp [h64, hk2, hw]), HB2.out⟩
       ·go_wp2
        go_ret
        exact ⟨ret_b6 (by rw [← HR.out]; simp at h64 h4 hk0 hk3 hk1 hk2 hw; simp [h64, hk2, hw]; try rfl), HB2.out⟩
     ·go_wp2
      go_ret
      exact ⟨ret_b6 (by rw [← HR.out]; simp at h64 h4 hk0 hk3 hk1; simp [h64, hk1]), HB2.out⟩
    ·go_wp2
     go_ret
     exact ⟨ret_b6 (by rw [← HR.out]; simp at h64 h4 hk0 hk3; simp [h64, hk3]), HB2.out⟩
   ·go_wp2
    go_ret
    exact ⟨ret_b6 (by rw [← HR.out]; simp at h64 h4 hk0; rw [cut_less (by have := HX0.out; omega) HU.out.1]; simp [h64, hk0]), HB2.out⟩
  ·go_wp2
   go_ret
   exact ⟨ret_b6 (by rw [← HR.out]; simp at h64 h4; simp [h4]), HB2.out⟩
 ·go_wp2
  go_ret
  exact ⟨ret_b6 (by rw [← HR.out]; simp at h64; simp [h64]), HB2.out⟩
theorem cutV_u64 {x n : Int} (h : U64 n) : U64 (cutV x n) := by
 unfold U64 at *
 unfold cutV
 split
 ·omega
 ·split
  ·omega
  ·split <;> omega
set_option maxHeartbeats 2000000 in
theorem operand_any (x k : Int) (hx : x = 32 ∨ x = 64) (w : World) (h : PoolAt w base F g p) (hbase : base ≤ w.heap.size) :
  Calls Tryz.prog 157 #[.agg #[.pointer (some ⟨g, 0, none⟩)], .int .i8 x, .int .i64 k] w (RetP base g F w (operandP p x k)) := by
 obtain ⟨t, ht⟩ : ∃ t, atP p.T k = t := ⟨_, rfl⟩
 have htw : t.wf := by rw [← ht]; exact atP_wf h.rng k
 have HE : Hid (operandP p x k = if t.kind = 0 then putR p (constT (cutV x t.n)) else if x = 32 ∧ t.kind = 3 ∧ t.w = 32 then (p, t.a, 0) else (p, k, 0)) := hide (by unfold operandP; rw [ht])
 obtain ⟨r, hr⟩ : ∃ r, operandP p x k = r := ⟨_, rfl⟩
 rw [hr] at HE ⊢
 have HT := hide ht
 have HU := hide (cutV_u64 (x := x) htw.2.2.2.1)
 have hb0 : Below w.heap.size w (w.alloc (.cells #[.pointer (some ⟨g, 0, none⟩)] 125)) := (Below.refl _ w).alloc (Nat.le_refl _) _
 have HP := hide (PG.of_below h hb0)
 have HZ := hide (Blk.new w 125 #[.pointer (some ⟨g, 0, none⟩)])
 clear h hb0 ht htw hr
 go_enter Tryz.func157, Tryz.ntmps157
 go_wp2_with fail
 refine (at_any k _ HP.out.pool).mono ?_
 rintro e w1 ⟨rfl, hb⟩
 have HP1 := hide (HP.out.step hb)
 have HZ1 := hide (HZ.out.below hb HZ.out.lt)
 clear hb HP HZ
 rw [HT.out]
 go_upto_region 2 with (first
  | (refine wpList_store_new rfl 147 (.tmp 8) (.tmp 11) rfl _ t.cells (termV t) (by rfl) (by rfl) rfl sizT rfl (TD.one _) ?_
     intro w5 G5 L5 Z5
     have HX := hide G5
     have HP2 := hide (HP1.out.step L5)
     have HZ2 := hide (HZ1.out.below L5 HZ1.out.lt)
     clear G5 L5 Z5)
  | fail)
 obtain ⟨b8, hb8⟩ : ∃ b, w1.heap.size = b := ⟨_, rfl⟩
 rw [hb8] at HX ⊢
 have c0 := HZ2.out.cell 0
 have b0 := HX.out.cell 0
 have b2 := HX.out.cell 2
 have b3 := HX.out.cell 3
 have b4 := HX.out.cell 4
 simp [TD.cells] at b0 b2 b3 b4 c0
 have hb5 : base ≤ w5.heap.size := Nat.le_trans hbase HP2.out.size
 cases hk0 : (t.kind == 0)
 ·cases hx32 : (x == 32)
  ·go_wp2
   go_ret2
   rw [HE.out, if_neg (by simpa using hk0), if_neg (by simp at hx32; simp [hx32])]
   exact RetP.same HP2.out
  ·cases hk3 : (t.kind == 3)
   ·go_wp2
    go_ret2
    rw [HE.out, if_neg (by simpa using hk0), if_neg (by simp at hk3; simp [hk3])]
    exact RetP.same HP2.out
   ·cases hw32 : (t.w == 32)
    ·go_wp2
     go_ret2
     rw [HE.out, if_neg (by simpa using hk0), if_neg (by simp at hw32; simp [hw32])]
     exact RetP.same HP2.out
    ·go_wp2
     go_ret2
     rw [HE.out, if_neg (by simpa using hk0), if_pos ⟨by simpa using hx32, by simpa using hk3, by simpa using hw32⟩]
     exact RetP.same HP2.out
 ·go_upto_region 3 with fail
  go_region_with (first
   | (go_at_call 97; refine (cut_any _ _ _).mono ?_; rintro e w' ⟨rfl, rfl⟩)
   | (go_at_call 39; refine (const_any _ HU.out _ (HP2.out.pool.drew) hb5).mono ?_; rintro e w' ⟨rfl, hr⟩))
  all_goals
   have HR := hide hr
   clear hr
   go_wp2
   go_ret2
   rw [HE.out, if_pos (by simpa using hk0)]
   exact RetP.from (HP2.out.step ((Below.refl _ _).drew)) ⟨rfl, HR.out⟩
end
end Go.Proofs.YtepagfkkjlbipaaGreat
end
section
namespace Go.Proofs.YtepagfkkjlbipaaGreat
open Go.RowKit
set_option linter.unusedVariables false
set_option linter.unusedSimpArgs false
set_option maxRecDepth 100000
section
variable {base g : Nat} {F : Nat → Prop} {p : PS}
def BothP (base g : Nat) (F : Nat → Prop) (w : World) (r : PS × Int × Int × Int) (e : Ending) (w' : World) : Prop :=
 e = .returned (.tuple #[.int .i64 r.2.1, .int .i64 r.2.2.1, .int .i64 r.2.2.2]) ∧ ∃ F', PG base g F w F' r.1 w'
set_option maxHeartbeats 1000000 in
theorem both_any (x a b : Int) (hx : x = 32 ∨ x = 64) (w : World) (h : PoolAt w base F g p) (hbase : base ≤ w.heap.size) :
  Calls Tryz.prog 112 #[.agg #[.pointer (some ⟨g, 0, none⟩)], .int .i8 x, .int .i64 a, .int .i64 b] w (BothP base g F w (bothP p x a b)) := by
 obtain ⟨r, hr⟩ : ∃ r, operandP p x a = r := ⟨_, rfl⟩
 obtain ⟨s, hs⟩ : ∃ s, operandP r.1 x b = s := ⟨_, rfl⟩
 obtain ⟨q, hq⟩ : ∃ q, bothP p x a b = q := ⟨_, rfl⟩
 have HQ : Hid (q = if r.2.2 = 0 then (s.1, r.2.1, s.2.1, s.2.2) else (r.1, r.2.1, 0, r.2.2)) := hide (by rw [← hq]; unfold bothP; rw [hr]; dsimp only; rw [hs])
 rw [hq]
 have hb0 : Below w.heap.size w (w.alloc (.cells #[.pointer (some ⟨g, 0, none⟩)] 125)) := (Below.refl _ w).alloc (Nat.le_refl _) _
 have HP := hide (PG.of_below h hb0)
 have HZ := hide (Blk.new w 125 #[.pointer (some ⟨g, 0, none⟩)])
 have HNF := hide (fun q => by have := (h.fb _ q).2; omega : ¬ F w.heap.size)
 have hb1 := Nat.le_trans hbase HP.out.size
 have HO := hide (fun W F1 (hW : PoolAt W base F1 g p) hb => by have := operand_any x a hx W hW hb; rw [hr] at this; exact this : ∀ (W : World) (F1 : Nat → Prop) (hW : PoolAt W base F1 g p) (hb : base ≤ W.heap.size), Calls Tryz.prog 157 #[.agg #[.pointer (some ⟨g, 0, none⟩)], .int .i8 x, .int .i64 a] W (RetP base g F1 W r))
 have HO2 := hide (fun W F1 (hW : PoolAt W base F1 g r.1) hb => by have := operand_any x b hx W hW hb; rw [hs] at this; exact this : ∀ (W : World) (F1 : Nat → Prop) (hW : PoolAt W base F1 g r.1) (hb : base ≤ W.heap.size), Calls Tryz.prog 157 #[.agg #[.pointer (some ⟨g, 0, none⟩)], .int .i8 x, .int .i64 b] W (RetP base g F1 W s))
 clear h hb0 hr hs hq
 obtain ⟨p1, n1, e1⟩ := r
 obtain ⟨p2, n2, e2⟩ := s
 dsimp only at HQ HO HO2
 go_enter Tryz.func112, Tryz.ntmps112
 go_wp2_with fail
 refine (HO.out _ _ HP.out.pool hb1).mono ?_
 rintro e w1 ⟨rfl, F1, hp1⟩
 have HP1 := hide (HP.out.trans hp1)
 have HZ1 := hide (hp1.blk HZ.out HNF.out)
 have hb2 := Nat.le_trans hbase HP1.out.size
 have c0 := HZ1.out.1.cell 0
 clear hp1 HP HZ
 simp at c0
 cases he : (e1 == 0)
 ·go_wp2
  exact bodyPost_ret (v := .tuple #[.int .i64 n1, .int .i64 0, .int .i64 e1]) (by simp [results, Tryz.results112, go_sem]) rfl ⟨by rw [HQ.out, if_neg (by simpa using he)], F1, by rw [HQ.out, if_neg (by simpa using he)]; exact HP1.out⟩
 ·go_wp2_with fail
  refine (HO2.out _ _ HP1.out.pool hb2).mono ?_
  rintro e w2 ⟨rfl, F2, hp2⟩
  have HP2 := hide (HP1.out.trans hp2)
  clear hp2
  go_wp2
  exact bodyPost_ret (v := .tuple #[.int .i64 n1, .int .i64 n2, .int .i64 e2]) (by simp [results, Tryz.results112, go_sem]) rfl ⟨by rw [HQ.out, if_pos (by simpa using he)], F2, by rw [HQ.out, if_pos (by simpa using he)]; exact HP2.out⟩
theorem zextF_succ (f : Nat) (p : PS) (x a : Int) : zextF (f + 1) p x a = if x = 64 then some (p, a, 0) else if (atP p.T a).kind = 0 then some (putR p (constT (cutV x (atP p.T a).n))) else if narrowP p.T a x = true then some (p, a, 0) else if (atP p.T a).kind = 3 then zextF f p x (atP p.T a).a else some (putR p ⟨3, 0, x, 0, a, 0, 0⟩) := rfl
def zextT (x a : Int) : TD := ⟨3, 0, x, 0, a, 0, 0⟩
theorem zextT_wf {x a : Int} (h : I64 a) (hx : I8 x) : (zextT x a).wf := by unfold TD.wf I8 U64 I64 zextT; unfold I8 at hx; unfold I64 at h; dsimp only; exact ⟨by omega, by omega, hx, by omega, h, by omega, by omega⟩
theorem build_zext (a x : Int) (w : World) : (Instr.build 147 #[(0, .int .i8 3), (2, .int .i8 x), (4, .int .i64 a)]).run Tryz.prog w = .ok (termV (zextT x a)) w := run_build w 147 _ _ (by kernel_rfl)
set_option maxHeartbeats 4000000 in
theorem zext_any (x : Int) (hx : x = 8 ∨ x = 16 ∨ x = 32 ∨ x = 64) : ∀ (f : Nat) (a : Int) (ha : I64 a) (F : Nat → Prop) (p : PS) (r : RS) (hz : zextF f p x a = some r) (w : World) (h : PoolAt w base F g p) (hbase : base ≤ w.heap.size),
  Calls Tryz.prog 118 #[.agg #[.pointer (some ⟨g, 0, none⟩)], .int .i8 x, .int .i64 a] w (RetP base g F w r) := by
 intro f
 induction f with
 | zero => intro a ha F p r hz; cases hz
 | succ f ih =>
 intro a ha F p r hz w h hbase
 have HIH := hide ih
 obtain ⟨t, ht⟩ : ∃ t, atP p.T a = t := ⟨_, rfl⟩
 have htw : t.wf := by rw [← ht]; exact atP_wf h.rng a
 obtain ⟨nb, hnb⟩ : ∃ nb, narrowP p.T a x = nb := ⟨_, rfl⟩
 have HE := hide (show (if x = 64 then some (p, a, 0) else if t.kind = 0 then some (putR p (constT (cutV x t.n))) else if nb = true then some (p, a, 0) else if t.kind = 3 then zextF f p x t.a else some (putR p ⟨3, 0, x, 0, a, 0, 0⟩)) = some r by rw [← hz, zextF_succ, ht, hnb])
 have HT := hide ht
 have HNB := hide hnb
 have HU := hide (cutV_u64 (x := x) htw.2.2.2.1)
 have HTA := hide htw.2.2.2.2.1
 have HX8 := hide hx
 have HZW := hide (zextT_wf ha (by unfold I8; omega : I8 x))
 have qz := fun (w : World) => build_zext a x w
 have hb0 : Below w.heap.size w (w.alloc (.cells #[.pointer (some ⟨g, 0, none⟩)] 125)) := (Below.refl _ w).alloc (Nat.le_refl _) _
 have HP := hide (PG.of_below h hb0)
 have HZ := hide (Blk.new w 125 #[.pointer (some ⟨g, 0, none⟩)])
 clear h hb0 ht htw hz hnb ih ha hx
 go_enter Tryz.func118, Tryz.ntmps118
 go_wp2_with fail
 refine (at_any a _ HP.out.pool).mono ?_
 rintro e w1 ⟨rfl, hb⟩
 have HP1 := hide (HP.out.step hb)
 have HZ1 := hide (HZ.out.below hb HZ.out.lt)
 clear hb HP HZ
 rw [HT.out]
 go_upto_region 2 with (first
  | (refine wpList_store_new rfl 147 (.tmp 8) (.tmp 11) rfl _ t.cells (termV t) (by rfl) (by rfl) rfl sizT rfl (TD.one _) ?_
     intro w5 G5 L5 Z5
     have HX := hide G5
     have HP2 := hide (HP1.out.step L5)
     have HZ2 := hide (HZ1.out.below L5 HZ1.out.lt)
     clear G5 L5 Z5)
  | fail)
 obtain ⟨b8, hb8⟩ : ∃ b, w1.heap.size = b := ⟨_, rfl⟩
 rw [hb8] at HX ⊢
 have c0 := HZ2.out.cell 0
 have b0 := HX.out.cell 0
 have b3 := HX.out.cell 3
 simp [TD.cells] at b0 b3 c0
 have hb5 : base ≤ w5.heap.size := Nat.le_trans hbase HP2.out.size
 cases h64 : (x == 64)
 ·have hx64 : x ≠ 64 := by simpa using h64
  cases hk0 : (t.kind == 0)
  ·have hkn0 : t.kind ≠ 0 := by simpa using hk0
   go_wp2_with fail
   refine (narrow_any a x HX8.out _ HP2.out.pool).mono ?_
   rintro e w6 ⟨rfl, hb⟩
   have HP3 := hide (HP2.out.step hb)
   have HZ3 := hide (HZ2.out.below hb HZ2.out.lt)
   have HX3 := hide (HX.out.below hb HX.out.lt)
   clear hb b0 b3 c0
   rw [HNB.out]
   have c0 := HZ3.out.cell 0
   have b0 := HX3.out.cell 0
   have b4 := HX3.out.cell 4
   simp [TD.cells] at b0 b4 c0
   have hb6 : base ≤ w6.heap.size := Nat.le_trans hbase HP3.out.size
   cases nb
   ·cases hk3 : (t.kind == 3)
    ·have hkn3 : t.kind ≠ 3 := by simpa using hk3
     go_wp2_with fail
     refine (put_r _ HZW.out _ HP3.out.pool hb6).mono ?_
     rintro e w7 ⟨rfl, hr⟩
     have HR := hide hr
     clear hr
     go_wp2
     go_ret2
     have he := HE.out
     rw [if_neg hx64, if_neg hkn0, if_neg (by simp), if_neg hkn3] at he
     injection he with he
     rw [← he]
     exact RetP.from HP3.out ⟨rfl, HR.out⟩
    ·have hk3' : t.kind = 3 := by simpa using hk3
     have hrec : zextF f p x t.a = some r := by
      have he := HE.out
      rw [if_neg hx64, if_neg hkn0, if_neg (by simp), if_pos hk3'] at he
      exact he
     have HREC := hide hrec
     clear hrec
     go_wp2_with fail
     refine (HIH.out t.a HTA.out _ p r HREC.out _ HP3.out.pool hb6).mono ?_
     rintro e w7 ⟨rfl, hr⟩
     have HR := hide hr
     clear hr
     go_wp2
     go_ret2
     exact RetP.from HP3.out ⟨rfl, HR.out⟩
   ·go_wp2
    go_ret2
    have he := HE.out
    rw [if_neg hx64, if_neg hkn0, if_pos trivial] at he
    injection he with he
    rw [← he]
    exact RetP.same HP3.out
  ·have hk0' : t.kind = 0 := by simpa using hk0
   go_upto_region 5 with fail
   go_region_with (first
    | (go_at_call 97; refine (cut_any _ _ _).mono ?_; rintro e w' ⟨rfl, rfl⟩)
    | (go_at_call 39; refine (const_any _ HU.out _ (HP2.out.pool.drew) hb5).mono ?_; rintro e w' ⟨rfl, hr⟩))
   all_goals
    have HR := hide hr
    clear hr
    go_wp2
    go_ret2
    have he := HE.out
    rw [if_neg hx64, if_pos hk0'] at he
    injection he with he
    rw [← he]
    exact RetP.from (HP2.out.step ((Below.refl _ _).drew)) ⟨rfl, HR.out⟩
 ·go_wp2
  go_ret2
  have he := HE.out
  rw [if_pos (by simpa using h64)] at he
  injection he with he
  rw [← he]
  exact RetP.same HP2.out
end
end Go.Proofs.YtepagfkkjlbipaaGreat
end
