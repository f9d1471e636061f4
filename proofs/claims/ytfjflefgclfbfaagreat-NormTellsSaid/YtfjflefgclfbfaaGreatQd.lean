/-
  The document's is, Like, cutTo, Guard. Conditions: those written in each statement.
  The document's Ite. Conditions: those written in each statement.
-/
import Derived.Test.YtfjflefgclfbfaaGreatRr
import Derived.BigQuiet
import Derived.Deep.QuietTactic
section
namespace Go.Proofs.YtfjflefgclfbfaaGreat
open Go.RowKit
set_option linter.unusedVariables false
set_option linter.unusedSimpArgs false
set_option maxRecDepth 100000
section
variable {base g : Nat} {F : Nat → Prop} {p : PS}
set_option maxHeartbeats 2000000 in
theorem is_r (n v : Int) (w : World) (h : RefAt w base F g p) : Calls Tryz.prog 83 #[.pointer (some ⟨g, 0, none⟩), .int .i64 n, .int .u64 v] w fun e w' => e = .returned (.bool (isP p.T n v)) ∧ Below w.heap.size w w' := by
  obtain ⟨t, ht⟩ : ∃ t, atP p.T n = t := ⟨_, rfl⟩
  have HT := hide ht
  have HP := hide h
  unfold isP
  rw [ht]
  clear h ht
  go_enter Tryz.func83, Tryz.ntmps83
  go_wp2_with fail
  refine (get_r n _ HP.out).mono ?_
  rintro e w1 ⟨rfl, hb⟩
  have HB1 := hide hb
  clear hb
  rw [HT.out]
  go_upto_region 2 with (first
    | (refine wpList_store_new rfl 67 (.tmp 7) (.tmp 10) rfl _ t.cells (termV t) (by rfl) (by rfl) rfl sizT rfl (TD.one _) ?_
       intro w5 G5 L5 Z5
       have HX := hide G5
       have HB2 := hide (HB1.out.trans (L5.mono HB1.out.size))
       clear G5 L5 Z5)
    | fail)
  have b0 := HX.out.cell 0
  have b3 := HX.out.cell 3
  simp [TD.cells] at b0 b3
  cases hk : (t.kind == 0)
  all_goals
    go_wp2
    go_ret
    exact ⟨by simp [hk], HB2.out⟩
set_option maxHeartbeats 2000000 in
theorem like_r (n u x : Int) (w : World) (h : RefAt w base F g p) : Calls Tryz.prog 104 #[.pointer (some ⟨g, 0, none⟩), .int .i64 n, .int .i64 u, .int .i8 x] w fun e w' => e = .returned (.bool (likeP p.T n u x)) ∧ Below w.heap.size w w' := by
  obtain ⟨t, ht⟩ : ∃ t, atP p.T n = t := ⟨_, rfl⟩
  have HT := hide ht
  have HP := hide h
  unfold likeP
  rw [ht]
  clear h ht
  go_enter Tryz.func104, Tryz.ntmps104
  cases hnu : (n == u)
  rotate_left
  · go_wp2
    go_ret
    exact ⟨by simp [hnu], Below.refl _ _⟩
  go_wp2_with fail
  refine (get_r n _ HP.out).mono ?_
  rintro e w1 ⟨rfl, hb⟩
  have HB1 := hide hb
  clear hb
  rw [HT.out]
  go_upto_region 4 with (first
    | (refine wpList_store_new rfl 67 (.tmp 9) (.tmp 15) rfl _ t.cells (termV t) (by rfl) (by rfl) rfl sizT rfl (TD.one _) ?_
       intro w5 G5 L5 Z5
       have HX := hide G5
       have HB2 := hide (HB1.out.trans (L5.mono HB1.out.size))
       clear G5 L5 Z5)
    | fail)
  have b0 := HX.out.cell 0
  have b2 := HX.out.cell 2
  have b4 := HX.out.cell 4
  simp [TD.cells] at b0 b2 b4
  cases hk : (t.kind == 3)
  · go_wp2
    go_ret
    exact ⟨by simp [hnu, hk], HB2.out⟩
  cases hw : (t.w == x)
  all_goals
    go_wp2
    go_ret
    exact ⟨by simp [hnu, hk, hw], HB2.out⟩
/-- What cutTo answers. -/
def cutP (T : List TD) (n u x : Int) : Bool := if n = u then hasB T u && (wdB x && narrowP T u x) else (atP T n).kind == 3 && ((atP T n).w == x && (atP T n).a == u)
set_option maxHeartbeats 2000000 in
theorem cutTo_r (n u x : Int) (w : World) (h : RefAt w base F g p) : Calls Tryz.prog 85 #[.pointer (some ⟨g, 0, none⟩), .int .i64 n, .int .i64 u, .int .i8 x] w fun e w' => e = .returned (.bool (cutP p.T n u x)) ∧ Below w.heap.size w w' := by
  obtain ⟨t, ht⟩ : ∃ t, atP p.T n = t := ⟨_, rfl⟩
  have HT := hide ht
  have HP := hide h
  unfold cutP
  rw [ht]
  clear h ht
  cases hnu : (n == u)
  rotate_left
  · have hnu' : n = u := by simpa using hnu
    rw [if_pos hnu']
    obtain ⟨vb, hvb⟩ : ∃ v, (hasB p.T u && (wdB x && narrowP p.T u x)) = v := ⟨_, rfl⟩
    rw [hvb]
    have HVB := hide hvb
    clear hnu' hvb
    go_enter Tryz.func85, Tryz.ntmps85
    go_wp2_with fail
    refine (narrow_r x u _ HP.out).mono ?_
    rintro e w1 ⟨rfl, hb⟩
    have HB1 := hide hb
    clear hb
    rw [HVB.out]
    go_wp2
    go_ret
    exact ⟨rfl, HB1.out⟩
  rw [if_neg (by simpa using hnu)]
  go_enter Tryz.func85, Tryz.ntmps85
  go_wp2_with fail
  refine (get_r n _ HP.out).mono ?_
  rintro e w1 ⟨rfl, hb⟩
  have HB1 := hide hb
  clear hb
  rw [HT.out]
  go_upto_region 4 with (first
    | (refine wpList_store_new rfl 67 (.tmp 9) (.tmp 19) rfl _ t.cells (termV t) (by rfl) (by rfl) rfl sizT rfl (TD.one _) ?_
       intro w5 G5 L5 Z5
       have HX := hide G5
       have HB2 := hide (HB1.out.trans (L5.mono HB1.out.size))
       clear G5 L5 Z5)
    | fail)
  have b0 := HX.out.cell 0
  have b2 := HX.out.cell 2
  have b4 := HX.out.cell 4
  simp [TD.cells] at b0 b2 b4
  cases hk : (t.kind == 3)
  · go_wp2
    go_ret
    exact ⟨by simp [hnu, hk], HB2.out⟩
  cases hw : (t.w == x)
  all_goals
    go_wp2
    go_ret
    exact ⟨by simp [hnu, hk, hw], HB2.out⟩
/-- Does Guard find what it looks for? -/
def guardP (T : List TD) (n x : Int) : Bool := (atP T n).kind == 5 && (isP T (atP T n).b 1 && ((atP T (atP T n).a).kind == 4 && ((atP T (atP T n).a).op == 0 && ((atP T (atP T n).a).w == x && (isP T (atP T (atP T n).a).b 0 && likeP T (atP T n).c (atP T (atP T n).a).a x)))))
def GuardQ (T : List TD) (n x : Int) (e : Ending) : Prop := e = .returned (if guardP T n x = true then .tuple #[.int .i64 (atP T n).a, .int .i64 (atP T (atP T n).a).a, .bool true] else .tuple #[.int .i64 0, .int .i64 0, .bool false])
set_option maxHeartbeats 4000000 in
theorem guard_r (n x : Int) (w : World) (h : RefAt w base F g p) : Calls Tryz.prog 84 #[.pointer (some ⟨g, 0, none⟩), .int .i64 n, .int .i8 x] w fun e w' => GuardQ p.T n x e ∧ Below w.heap.size w w' := by
  obtain ⟨t, ht⟩ : ∃ t, atP p.T n = t := ⟨_, rfl⟩
  have HT := hide ht
  have HP := hide h
  obtain ⟨c, hc⟩ : ∃ c, atP p.T t.a = c := ⟨_, rfl⟩
  have HC := hide hc
  obtain ⟨i1, hi1⟩ : ∃ v, isP p.T t.b 1 = v := ⟨_, rfl⟩
  obtain ⟨i0, hi0⟩ : ∃ v, isP p.T c.b 0 = v := ⟨_, rfl⟩
  obtain ⟨lk, hlk⟩ : ∃ v, likeP p.T t.c c.a x = v := ⟨_, rfl⟩
  have HI1 := hide hi1
  have HI0 := hide hi0
  have HLK := hide hlk
  unfold GuardQ guardP
  rw [ht, hc, hi1, hi0, hlk]
  obtain ⟨E, hE⟩ : ∃ E : Value, (if (t.kind == 5 && (i1 && (c.kind == 4 && (c.op == 0 && (c.w == x && (i0 && lk)))))) = true then .tuple #[.int .i64 t.a, .int .i64 c.a, .bool true] else .tuple #[.int .i64 0, .int .i64 0, .bool false]) = E := ⟨_, rfl⟩
  rw [hE]
  have HE := hide hE
  clear h ht hc hi1 hi0 hlk hE
  go_enter Tryz.func84, Tryz.ntmps84
  go_wp2_with fail
  refine (get_r n _ HP.out).mono ?_
  rintro e w1 ⟨rfl, hb⟩
  have HB1 := hide hb
  clear hb
  rw [HT.out]
  go_upto_region 2 with (first
    | (refine wpList_store_new rfl 67 (.tmp 9) (.tmp 13) rfl _ t.cells (termV t) (by rfl) (by rfl) rfl sizT rfl (TD.one _) ?_
       intro w5 G5 L5 Z5
       have HX := hide G5
       have HB2 := hide (HB1.out.trans (L5.mono HB1.out.size))
       clear G5 L5 Z5)
    | fail)
  have HP2 := hide (HP.out.below HB2.out)
  have b0 := HX.out.cell 0
  have b5 := HX.out.cell 5
  simp [TD.cells] at b0 b5
  cases hk : (t.kind == 5)
  · have hk' : (t.kind != 5) = true := by unfold bne; rw [hk]; rfl
    go_wp2
    exact bodyPost_ret (v := .tuple #[.int .i64 0, .int .i64 0, .bool false]) (by simp [results, Tryz.results84, go_sem]) rfl ⟨by rw [← HE.out]; simp [hk], HB2.out⟩
  have hk' : (t.kind != 5) = false := by unfold bne; rw [hk]; rfl
  go_wp2_with fail
  refine (is_r t.b 1 _ HP2.out).mono ?_
  rintro e w6 ⟨rfl, hb⟩
  rw [HI1.out]
  have HB3 := hide (HB2.out.trans (hb.mono HB2.out.size))
  have HX3 := hide (HX.out.below hb HX.out.lt)
  clear hb b0 b5
  cases i1
  · go_wp2
    exact bodyPost_ret (v := .tuple #[.int .i64 0, .int .i64 0, .bool false]) (by simp [results, Tryz.results84, go_sem]) rfl ⟨by rw [← HE.out]; simp, HB3.out⟩
  have HP3 := hide (HP.out.below HB3.out)
  have b4 := HX3.out.cell 4
  simp [TD.cells] at b4
  go_wp2_with fail
  refine (get_r t.a _ HP3.out).mono ?_
  rintro e w7 ⟨rfl, hb⟩
  have HB4 := hide (HB3.out.trans (hb.mono HB3.out.size))
  have HX4 := hide (HX3.out.below hb HX3.out.lt)
  clear hb b4
  rw [HC.out]
  go_upto_region 5 with (first
    | (refine wpList_store_new rfl 67 (.tmp 10) (.tmp 27) rfl _ c.cells (termV c) (by rfl) (by rfl) rfl sizT rfl (TD.one _) ?_
       intro w8 G5 L5 Z5
       have HY := hide G5
       have HB5 := hide (HB4.out.trans (L5.mono HB4.out.size))
       have HX5 := hide (HX4.out.below L5 HX4.out.lt)
       clear G5 L5 Z5)
    | fail)
  have c0 := HY.out.cell 0
  have c1 := HY.out.cell 1
  have c2 := HY.out.cell 2
  have c5 := HY.out.cell 5
  simp [TD.cells] at c0 c1 c2 c5
  cases k4 : (c.kind == 4)
  · have k4' : (c.kind != 4) = true := by unfold bne; rw [k4]; rfl
    go_wp2
    exact bodyPost_ret (v := .tuple #[.int .i64 0, .int .i64 0, .bool false]) (by simp [results, Tryz.results84, go_sem]) rfl ⟨by rw [← HE.out]; simp [k4], HB5.out⟩
  have k4' : (c.kind != 4) = false := by unfold bne; rw [k4]; rfl
  cases k0 : (c.op == 0)
  · have k0' : (c.op != 0) = true := by unfold bne; rw [k0]; rfl
    go_wp2
    exact bodyPost_ret (v := .tuple #[.int .i64 0, .int .i64 0, .bool false]) (by simp [results, Tryz.results84, go_sem]) rfl ⟨by rw [← HE.out]; simp [k4, k0], HB5.out⟩
  have k0' : (c.op != 0) = false := by unfold bne; rw [k0]; rfl
  cases kw : (c.w == x)
  · have kw' : (c.w != x) = true := by unfold bne; rw [kw]; rfl
    go_wp2
    exact bodyPost_ret (v := .tuple #[.int .i64 0, .int .i64 0, .bool false]) (by simp [results, Tryz.results84, go_sem]) rfl ⟨by rw [← HE.out]; simp [k4, k0, kw], HB5.out⟩
  have kw' : (c.w != x) = false := by unfold bne; rw [kw]; rfl
  have HP5 := hide (HP.out.below HB5.out)
  go_wp2_with fail
  refine (is_r c.b 0 _ HP5.out).mono ?_
  rintro e w9 ⟨rfl, hb⟩
  rw [HI0.out]
  have HB6 := hide (HB5.out.trans (hb.mono HB5.out.size))
  have HX6 := hide (HX5.out.below hb HX5.out.lt)
  have HY6 := hide (HY.out.below hb HY.out.lt)
  clear hb c0 c1 c2 c5
  cases i0
  · go_wp2
    exact bodyPost_ret (v := .tuple #[.int .i64 0, .int .i64 0, .bool false]) (by simp [results, Tryz.results84, go_sem]) rfl ⟨by rw [← HE.out]; simp, HB6.out⟩
  have HP6 := hide (HP.out.below HB6.out)
  have d6 := HX6.out.cell 6
  have d4 := HY6.out.cell 4
  simp [TD.cells] at d6 d4
  go_wp2_with fail
  refine (like_r t.c c.a x _ HP6.out).mono ?_
  rintro e w10 ⟨rfl, hb⟩
  rw [HLK.out]
  have HB7 := hide (HB6.out.trans (hb.mono HB6.out.size))
  have HX7 := hide (HX6.out.below hb HX6.out.lt)
  have HY7 := hide (HY6.out.below hb HY6.out.lt)
  clear hb d6 d4
  cases lk
  · go_wp2
    exact bodyPost_ret (v := .tuple #[.int .i64 0, .int .i64 0, .bool false]) (by simp [results, Tryz.results84, go_sem]) rfl ⟨by rw [← HE.out]; simp, HB7.out⟩
  have d4 := HX7.out.cell 4
  have f4 := HY7.out.cell 4
  simp [TD.cells] at d4 f4
  go_wp2
  go_quiet (fail)
  go_wp2
  exact bodyPost_ret (v := .tuple #[.int .i64 t.a, .int .i64 c.a, .bool true]) (by simp [results, Tryz.results84, go_sem]) rfl ⟨by rw [← HE.out]; simp [hk, k4, k0, kw], HB7.out.trans ((below_drewN (Below.refl _ _) nq).mono HB7.out.size)⟩
end
end Go.Proofs.YtfjflefgclfbfaaGreat
end
section
namespace Go.Proofs.YtfjflefgclfbfaaGreat
open Go.RowKit
set_option linter.unusedVariables false
set_option linter.unusedSimpArgs false
set_option maxRecDepth 100000
/-- The first test of the document's division. -/
def dTest (T : List TD) (a c : Int) : Bool := (atP T a).kind == 4 && ((atP T a).op == 0 && (isP T (atP T a).b 0 && ((atP T c).kind == 2 && ((atP T c).w == (atP T a).w && ((atP T c).op == 3 || (atP T c).op == 9)))))
/-- The second. -/
def gTest (T : List TD) (a b c : Int) : Bool := guardP T (atP T c).b (atP T a).w && ((atP T (atP T c).b).a == a && (((atP T c).op == 3 && isP T b 0) || ((atP T c).op == 9 && cutP T b (atP T c).a (atP T a).w)))
theorem part_has {p : PS} (hw : WfP p) {n k : Int} (hn : hasB p.T n = true) (hk : k ∈ prtL (atP p.T n)) : hasB p.T k = true := has_prt hw hn hk
theorem kind4_wide {p : PS} (hw : WfP p) {n : Int} (hn : hasB p.T n = true) (hk : (atP p.T n).kind = 4) : wdB (atP p.T n).w = true := by
  obtain ⟨i, _, hi⟩ := atP_yes hn
  have := hw.ok i _ hi
  unfold okF askT at this
  rw [hk] at this
  simp at this
  unfold wdB
  simp
  omega
theorem div_eq {p : PS} (hw : WfP p) {a b c : Int} (ha : hasB p.T a = true) (hc : hasB p.T c = true) : divOK p.T a b c = (dTest p.T a c && gTest p.T a b c) := by
  obtain ⟨s, hs⟩ : ∃ s, atP p.T a = s := ⟨_, rfl⟩
  obtain ⟨y, hy⟩ : ∃ y, atP p.T c = y := ⟨_, rfl⟩
  obtain ⟨u, hu⟩ : ∃ u, atP p.T y.b = u := ⟨_, rfl⟩
  have e1 : dTest p.T a c = (divA p.T a c && (y.op == 3 || y.op == 9)) := by
    unfold dTest divA
    rw [hs, hy]
    simp only [Bool.and_assoc]
  rw [e1]
  unfold divOK
  cases hA : divA p.T a c
  · rfl
  rw [Bool.true_and, Bool.true_and]
  have hA2 := hA
  unfold divA at hA2
  rw [hs, hy] at hA2
  simp only [Bool.and_eq_true, beq_iff_eq] at hA2
  obtain ⟨⟨⟨⟨k4, o0⟩, z0⟩, k2⟩, ww⟩ := hA2
  have e2 : divG p.T a c = (guardP p.T y.b s.w && u.a == a) := by
    unfold divG guardP
    rw [hy, hu, hs]
    by_cases hua : u.a = a
    · rw [hua, hs, k4, o0, z0]
      cases (u.kind == 5) <;> cases isP p.T u.b 1 <;> simp
    · have : (u.a == a) = false := by simpa using hua
      rw [this]
      simp
  have e3 : divM p.T a b c = (y.op == 9 && cutP p.T b y.a s.w) := by
    unfold divM cutP
    rw [hy, hs]
    have hya : hasB p.T y.a = true := part_has hw hc (by rw [hy]; unfold prtL; rw [if_pos (.inl k2)]; simp)
    have hsw : wdB s.w = true := by have := kind4_wide hw ha (by rw [hs]; exact k4); rw [hs] at this; exact this
    by_cases hb : b = y.a
    · subst hb
      rw [if_pos rfl, hya, hsw]
      unfold likeP
      simp
    · rw [if_neg hb]
      unfold likeP
      have h1 : (b == y.a) = false := by simpa using hb
      have h2 : (b != y.a) = true := by unfold bne; rw [h1]; rfl
      rw [h1, h2]
      simp
  have e4 : divD p.T b c = (y.op == 3 && isP p.T b 0) := by unfold divD; rw [hy]
  rw [e2, e3, e4]
  unfold gTest
  rw [hy, hs, hu]
  cases guardP p.T y.b s.w <;> cases (u.a == a) <;> cases (y.op == 3) <;> cases (y.op == 9) <;> simp
/-- The document's Ite at a fuel. -/
def RIteC (base g f : Nat) : Prop := ∀ (a b c : Int) (F : Nat → Prop) (p : PS) (r : RS) (hO : iteF f p a b c = some r) (hz : NZ p) (W : World) (h : RefAt W base F g p) (hbase : base ≤ W.heap.size),
  Calls Tryz.prog 25 #[.pointer (some ⟨g, 0, none⟩), .int .i64 a, .int .i64 b, .int .i64 c] W (RetR base g F W r)
section
variable {base g f : Nat}
set_option maxHeartbeats 2000000 in
theorem rite_bad (a b c : Int) (F : Nat → Prop) (p : PS) (w : World) (h : RefAt w base F g p) (hbad : ([a, b, c].all (hasB p.T)) = false) : Calls Tryz.prog 25 #[.pointer (some ⟨g, 0, none⟩), .int .i64 a, .int .i64 b, .int .i64 c] w (RetR base g F w (p, 0, 2)) := by
  have HP := hide (RG.refl h)
  have HB := hide hbad
  clear h hbad
  go_enter Tryz.func25, Tryz.ntmps25
  go_wp2_with fail
  have hb0 : Below w.heap.size w (w.alloc (.cells #[.int .i64 a, .int .i64 b, .int .i64 c] 3)) := bl_alloc' w _
  refine (rthere_any [a, b, c] _ 3 3 _ (HP.out.pool.below hb0) (reads_list w 3 [.int .i64 a, .int .i64 b, .int .i64 c] 3 rfl) rfl (Nat.le_refl _) (by omega)).mono ?_
  rintro e w2 ⟨rfl, hb⟩
  have HP1 := hide ((HP.out.step hb0).step hb)
  rw [HB.out]
  clear hb hb0
  go_wp2
  go_ret2
  exact RetR.same HP1.out
set_option maxHeartbeats 16000000 in
theorem rite_good (hIH : RIteC base g f) (a b c : Int) (F : Nat → Prop) (p : PS) (r : RS) (w : World) (h : RefAt w base F g p) (hbase : base ≤ w.heap.size) (hz : NZ p) (hH : ([a, b, c].all (hasB p.T)) = true) (hO : iteL (iteF f) f p a b c = some r) :
    Calls Tryz.prog 25 #[.pointer (some ⟨g, 0, none⟩), .int .i64 a, .int .i64 b, .int .i64 c] w (RetR base g F w r) := by
  have hhab : hasB p.T a = true ∧ hasB p.T b = true ∧ hasB p.T c = true := by simpa using hH
  obtain ⟨s, hs⟩ : ∃ s, atP p.T a = s := ⟨_, rfl⟩
  obtain ⟨y, hy⟩ : ∃ y, atP p.T c = y := ⟨_, rfl⟩
  have hdv := div_eq h.wf (a := a) (b := b) (c := c) hhab.1 hhab.2.2
  have hswf : s.wf := hs ▸ atP_wf h.rng a
  unfold iteL at hO
  dsimp only at hO
  rw [hdv, hs, hy] at hO
  have HAB := hide hhab
  have HS := hide hs
  have HY := hide hy
  have HSW := hide hswf
  have HO := hide hO
  have HH := hide hH
  have HZ := hide hz
  have HIH := hide hIH
  have HP := hide (RG.refl h)
  have HWF := hide h.wf
  have HRG := hide h.rng
  clear h hz hH hO hhab hs hy hdv hIH hswf
  go_enter Tryz.func25, Tryz.ntmps25
  go_wp2_with fail
  have hb0 : Below w.heap.size w (w.alloc (.cells #[.int .i64 a, .int .i64 b, .int .i64 c] 3)) := bl_alloc' w _
  refine (rthere_any [a, b, c] _ 3 3 _ (HP.out.pool.below hb0) (reads_list w 3 [.int .i64 a, .int .i64 b, .int .i64 c] 3 rfl) rfl (Nat.le_refl _) (by omega)).mono ?_
  rintro e w2 ⟨rfl, hb⟩
  have HP1 := hide ((HP.out.step hb0).step hb)
  rw [HH.out]
  clear hb hb0 HP
  go_wp2_with fail
  refine (get_r a _ HP1.out.pool).mono ?_
  rintro e w3 ⟨rfl, hb⟩
  have HP2 := hide (HP1.out.step hb)
  rw [HS.out]
  clear hb HP1
  go_upto_region 4 with (first
    | (refine wpList_store_new rfl 67 (.tmp 10) (.tmp 26) rfl _ s.cells (termV s) (by rfl) (by rfl) rfl sizT rfl (TD.one _) ?_
       intro w5 G5 L5 Z5
       have HX := hide G5
       have HP3 := hide (HP2.out.step L5)
       clear G5 L5 Z5)
    | fail)
  clear HP2
  obtain ⟨bs, hbs⟩ : ∃ b, w3.heap.size = b := ⟨_, rfl⟩
  rw [hbs] at HX ⊢
  have x0 := HX.out.cell 0
  simp [TD.cells] at x0
  have hbs5 : base ≤ w5.heap.size := Nat.le_trans hbase HP3.out.size
  cases k0 : (s.kind == 0)
  rotate_left
  · have x3 := HX.out.cell 3
    simp [TD.cells] at x3
    have hr := HO.out
    rw [if_pos k0] at hr
    injection hr with hr
    have HE := hide hr
    clear hr
    cases n0 : (s.n != 0)
    · go_wp2
      go_ret2
      rw [← HE.out, if_pos (by simpa using n0)]
      exact RetR.same HP3.out
    · go_wp2
      go_ret2
      rw [← HE.out, if_neg (by simpa using n0)]
      exact RetR.same HP3.out
  have hr := HO.out
  rw [if_neg (by rw [k0]; simp)] at hr
  have HO1 := hide hr
  clear hr HO
  cases hbc : (b == c)
  rotate_left
  · have hr := HO1.out
    rw [if_pos hbc] at hr
    injection hr with hr
    have HE := hide hr
    clear hr
    go_wp2
    go_ret2
    rw [← HE.out]
    exact RetR.same HP3.out
  have hr := HO1.out
  rw [if_neg (by rw [hbc]; simp)] at hr
  have HO2 := hide hr
  clear hr HO1
  have x1 := HX.out.cell 1
  simp [TD.cells] at x1
  go_upto_region 10 with fail
  go_cut [46] from 39 to 46 (fun v wc => v = .bool (s.kind == 4 && s.op == 1) ∧ wc = w5)
  case first =>
    as_aux_lemma =>
      cases k4 : (s.kind == 4)
      all_goals
        go_wp2
        go_meet
        case rel => exact ⟨by simp [k4], rfl⟩
  case rest =>
  obtain ⟨rfl, rfl⟩ := hcut
  obtain ⟨ne, hne⟩ : ∃ v, (s.kind == 4 && s.op == 1) = v := ⟨_, rfl⟩
  rw [hne]
  rw [hne] at HO2
  clear hne
  cases ne
  rotate_left
  · have hr := HO2.out
    rw [if_pos rfl, Option.bind_eq_some_iff] at hr
    obtain ⟨q, hq, hr⟩ := hr
    have HQ := hide hq
    have HR := hide hr
    have HNQ := hide (cond_nz (f + 1) HZ.out HWF.out HRG.out hq)
    clear hq hr HO2
    have x2 := HX.out.cell 2
    have x4 := HX.out.cell 4
    have x5 := HX.out.cell 5
    simp [TD.cells] at x2 x4 x5
    go_wp2_with fail
    refine (cond_r (f + 1) 0 s.w s.a s.b _ p q HQ.out HZ.out _ HP3.out.pool hbs5).mono ?_
    rintro e w6 ⟨rfl, F1, hp⟩
    have HP4 := hide (HP3.out.trans hp)
    obtain ⟨p1, n1, e1⟩ := q
    clear hp HQ x0 x1 x2 x4 x5
    dsimp only at HP4 HR HNQ ⊢
    have HR2 : Hid ((if e1 = 0 then iteF f p1 n1 c b else some (p1, 0, e1)) = some r) := hide (by have := HR.out; unfold bindR at this; exact this)
    cases he : (e1 == 0)
    · have hr := HR2.out
      rw [if_neg (by simpa using he)] at hr
      injection hr with hr
      subst hr
      go_wp2
      go_ret2
      exact RetR.same HP4.out
    · have hr := HR2.out
      rw [if_pos (by simpa using he)] at hr
      have HR3 := hide hr
      have hb6 : base ≤ w6.heap.size := Nat.le_trans hbase HP4.out.size
      clear hr
      go_wp2_with fail
      refine (HIH.out n1 c b _ p1 r HR3.out HNQ.out _ HP4.out.pool hb6).mono ?_
      rintro e w7 ⟨rfl, F2, hp⟩
      have HP5 := hide (HP4.out.trans hp)
      clear hp
      go_wp2
      go_ret2
      exact ⟨rfl, F2, HP5.out⟩
  have hr := HO2.out
  rw [if_neg (by simp)] at hr
  have HO3 := hide hr
  clear hr HO2 x0 x1
  go_wp2_with fail
  refine (get_r c _ HP3.out.pool).mono ?_
  rintro e w6 ⟨rfl, hb⟩
  have HP4 := hide (HP3.out.step hb)
  have HX4 := hide (HX.out.below hb HX.out.lt)
  rw [HY.out]
  clear hb HP3 HX hbs5
  go_upto_region 16 with (first
    | (refine wpList_store_new rfl 67 (.tmp 13) (.tmp 70) rfl _ y.cells (termV y) (by rfl) (by rfl) rfl sizT rfl (TD.one _) ?_
       intro w7 G5 L5 Z5
       have HZ5 := hide G5
       have HP5 := hide (HP4.out.step L5)
       have HX5 := hide (HX4.out.below L5 HX4.out.lt)
       clear G5 L5 Z5)
    | fail)
  clear HP4 HX4
  obtain ⟨by_, hby⟩ : ∃ b, w6.heap.size = b := ⟨_, rfl⟩
  rw [hby] at HZ5 ⊢
  have s0 := HX5.out.cell 0
  have s1 := HX5.out.cell 1
  have s2 := HX5.out.cell 2
  have s5 := HX5.out.cell 5
  have y0 := HZ5.out.cell 0
  have y1 := HZ5.out.cell 1
  have y2 := HZ5.out.cell 2
  simp [TD.cells] at s0 s1 s2 s5 y0 y1 y2
  obtain ⟨dt, hdt⟩ : ∃ v, dTest p.T a c = v := ⟨_, rfl⟩
  have HDT := hide hdt
  rw [hdt] at HO3
  clear hdt
  try simp only [Act.put, List.setIfInBounds_toArray, List.set_cons_zero, List.set_cons_succ]
  go_cut [106] from 71 to 106 (fun v wc => v = .bool dt ∧ Below w7.heap.size w7 wc)
  case first =>
    as_aux_lemma =>
      have hd : (s.kind == 4 && (s.op == 0 && (isP p.T s.b 0 && (y.kind == 2 && (y.w == s.w && (y.op == 3 || y.op == 9)))))) = dt := by
        have := HDT.out
        unfold dTest at this
        rw [HS.out, HY.out] at this
        exact this
      obtain ⟨z0, hz0⟩ : ∃ v, isP p.T s.b 0 = v := ⟨_, rfl⟩
      rw [hz0] at hd
      have HD := hide hd
      have HZ0 := hide hz0
      clear hd hz0
      cases k4 : (s.kind == 4)
      · go_wp2
        go_meet
        case rel => exact ⟨by rw [← HD.out, k4]; rfl, Below.refl _ _⟩
      cases o0 : (s.op == 0)
      · go_wp2
        go_meet
        case rel => exact ⟨by rw [← HD.out, o0]; simp, Below.refl _ _⟩
      go_wp2_with fail
      refine (is_r s.b 0 _ HP5.out.pool).mono ?_
      rintro e w8 ⟨rfl, hb⟩
      have HB := hide hb
      have HX6 := hide (HX5.out.below hb HX5.out.lt)
      have HZ6 := hide (HZ5.out.below hb HZ5.out.lt)
      rw [HZ0.out]
      clear hb s0 s1 s2 s5 y0 y1 y2
      have s2 := HX6.out.cell 2
      have y0 := HZ6.out.cell 0
      have y1 := HZ6.out.cell 1
      have y2 := HZ6.out.cell 2
      simp [TD.cells] at s2 y0 y1 y2
      cases z0
      · go_wp2
        go_meet
        case rel => exact ⟨by rw [← HD.out]; simp, HB.out⟩
      cases k2 : (y.kind == 2)
      · go_wp2
        go_meet
        case rel => exact ⟨by rw [← HD.out, k2]; simp, HB.out⟩
      cases ww : (y.w == s.w)
      · go_wp2
        go_meet
        case rel => exact ⟨by rw [← HD.out, ww]; simp, HB.out⟩
      cases o3 : (y.op == 3)
      · cases o9 : (y.op == 9)
        all_goals
          go_wp2
          go_meet
          case rel => exact ⟨by rw [← HD.out]; simp [k4, o0, k2, ww, o3, o9], HB.out⟩
      · go_wp2
        go_meet
        case rel => exact ⟨by rw [← HD.out]; simp [k4, o0, k2, ww, o3], HB.out⟩
  case rest =>
  obtain ⟨rfl, hbw⟩ := hcut
  have HP6 := hide (HP5.out.step hbw)
  have HX6 := hide (HX5.out.below hbw HX5.out.lt)
  have HZ6 := hide (HZ5.out.below hbw HZ5.out.lt)
  have hb8 : base ≤ wc.heap.size := Nat.le_trans hbase HP6.out.size
  clear hbw s0 s1 s2 s5 y0 y1 y2 HP5 HX5 HZ5
  cases dt
  · have hr : some (putR p (iteT a b c)) = some r := by
      have hr := HO3.out
      rw [Bool.false_and, if_neg (by simp)] at hr
      exact hr
    injection hr with hr
    have HE := hide hr
    have HTW := hide (iteT_wf (has_i64 HWF.out HAB.out.1) (has_i64 HWF.out HAB.out.2.1) (has_i64 HWF.out HAB.out.2.2))
    have qbo := fun w => build_ite a b c w
    clear hr
    go_wp2_with fail
    refine (rput_any _ HTW.out _ HP6.out.pool hb8).mono ?_
    rintro e w20 ⟨rfl, F3, hp⟩
    have HPE := hide (HP6.out.trans hp)
    clear hp
    go_wp2
    go_ret2
    rw [← HE.out]
    exact ⟨rfl, F3, HPE.out⟩
  have hr := HO3.out
  rw [Bool.true_and] at hr
  have HO4 := hide hr
  clear hr HO3
  obtain ⟨gd, hgd⟩ : ∃ v, guardP p.T y.b s.w = v := ⟨_, rfl⟩
  obtain ⟨u, hu⟩ : ∃ u, atP p.T y.b = u := ⟨_, rfl⟩
  have HGD := hide hgd
  have HU := hide hu
  clear hgd hu
  have s2 := HX6.out.cell 2
  have y5 := HZ6.out.cell 5
  simp [TD.cells] at s2 y5
  go_wp2_with fail
  refine (guard_r y.b s.w _ HP6.out.pool).mono ?_
  rintro e w9 ⟨hq, hb⟩
  have HP7 := hide (HP6.out.step hb)
  have HX7 := hide (HX6.out.below hb HX6.out.lt)
  have HZ7 := hide (HZ6.out.below hb HZ6.out.lt)
  have hb9 : base ≤ w9.heap.size := Nat.le_trans hbase HP7.out.size
  unfold GuardQ at hq
  rw [HGD.out, HU.out] at hq
  clear hb s2 y5 HP6 HX6 HZ6 hb8
  have s2 := HX7.out.cell 2
  have y1 := HZ7.out.cell 1
  have y4 := HZ7.out.cell 4
  simp [TD.cells] at s2 y1 y4
  cases gd
  · rw [if_neg (by simp)] at hq
    subst hq
    have HGT : Hid (gTest p.T a b c = false) := hide (by unfold gTest; rw [HY.out, HS.out, HGD.out]; rfl)
    have hr : some (putR p (iteT a b c)) = some r := by
      have hr := HO4.out
      rw [HGT.out, if_neg (by simp)] at hr
      exact hr
    injection hr with hr
    have HE := hide hr
    have HTW := hide (iteT_wf (has_i64 HWF.out HAB.out.1) (has_i64 HWF.out HAB.out.2.1) (has_i64 HWF.out HAB.out.2.2))
    have qbo := fun w => build_ite a b c w
    clear hr
    go_wp2_with fail
    refine (rput_any _ HTW.out _ HP7.out.pool hb9).mono ?_
    rintro e w20 ⟨rfl, F3, hp⟩
    have HPE := hide (HP7.out.trans hp)
    clear hp
    go_wp2
    go_ret2
    rw [← HE.out]
    exact ⟨rfl, F3, HPE.out⟩
  rw [if_pos rfl] at hq
  subst hq
  have HGT : Hid (gTest p.T a b c = (u.a == a && ((y.op == 3 && isP p.T b 0) || (y.op == 9 && cutP p.T b y.a s.w)))) := hide (by unfold gTest; rw [HY.out, HS.out, HGD.out, HU.out]; rfl)
  obtain ⟨gt, hgt⟩ : ∃ v, gTest p.T a b c = v := ⟨_, rfl⟩
  rw [hgt] at HO4 HGT
  have HGG := hide hgt
  clear hgt
  generalize hd2 : (atP p.T u.a).a = d2
  have HD2 := hide hd2
  clear hd2
  go_upto_region 18 with fail
  go_cut [146] from 117 to 146 (fun v wd => v = .bool gt ∧ Below w9.heap.size w9 wd)
  case first =>
    as_aux_lemma =>
      cases ua : (u.a == a)
      · go_wp2
        go_meet
        case rel => exact ⟨by rw [HGT.out, ua]; rfl, Below.refl _ _⟩
      cases o3 : (y.op == 3)
      rotate_left
      · go_wp2_with fail
        refine (is_r b 0 _ HP7.out.pool).mono ?_
        rintro e w10 ⟨rfl, hb⟩
        have HB := hide hb
        clear hb
        have o9 : (y.op == 9) = false := by
          have e3 : y.op = 3 := by simpa using o3
          rw [e3]
          rfl
        have HZ8 := hide (HZ7.out.below HB.out HZ7.out.lt)
        clear y1
        have y1 := HZ8.out.cell 1
        simp [TD.cells] at y1
        obtain ⟨ib, hib⟩ : ∃ v, isP p.T b 0 = v := ⟨_, rfl⟩
        have HG2 := hide (by have := HGT.out; rw [hib, ua, o3, o9] at this; exact this : gt = (true && ((true && ib) || (false && cutP p.T b y.a s.w))))
        rw [hib]
        clear hib
        cases ib
        all_goals
          go_wp2
          go_meet
          case rel => exact ⟨by rw [HG2.out]; simp, HB.out⟩
      cases o9 : (y.op == 9)
      · go_wp2
        go_meet
        case rel => exact ⟨by rw [HGT.out, ua, o3, o9]; rfl, Below.refl _ _⟩
      go_wp2_with fail
      refine (cutTo_r b y.a s.w _ HP7.out.pool).mono ?_
      rintro e w10 ⟨rfl, hb⟩
      have HB := hide hb
      clear hb
      obtain ⟨ib, hib⟩ : ∃ v, cutP p.T b y.a s.w = v := ⟨_, rfl⟩
      have HG2 := hide (by have := HGT.out; rw [hib, ua, o3, o9] at this; exact this : gt = (true && ((false && isP p.T b 0) || (true && ib))))
      rw [hib]
      clear hib
      go_wp2
      go_meet
      case rel => exact ⟨by rw [HG2.out]; simp, HB.out⟩
  case rest =>
  obtain ⟨rfl, hbw⟩ := hcut
  have HP8 := hide (HP7.out.step hbw)
  have HX8 := hide (HX7.out.below hbw HX7.out.lt)
  have HZ8 := hide (HZ7.out.below hbw HZ7.out.lt)
  have hb10 : base ≤ wc.heap.size := Nat.le_trans hbase HP8.out.size
  clear hbw s2 y1 y4 HP7 HX7 HZ7
  cases gt
  · have hr : some (putR p (iteT a b c)) = some r := by
      have hr := HO4.out
      rw [if_neg (by simp)] at hr
      exact hr
    injection hr with hr
    have HE := hide hr
    have HTW := hide (iteT_wf (has_i64 HWF.out HAB.out.1) (has_i64 HWF.out HAB.out.2.1) (has_i64 HWF.out HAB.out.2.2))
    have qbo := fun w => build_ite a b c w
    clear hr
    go_wp2_with fail
    refine (rput_any _ HTW.out _ HP8.out.pool hb10).mono ?_
    rintro e w20 ⟨rfl, F3, hp⟩
    have HPE := hide (HP8.out.trans hp)
    clear hp
    go_wp2
    go_ret2
    rw [← HE.out]
    exact ⟨rfl, F3, HPE.out⟩
  have hr := HO4.out
  rw [if_pos rfl] at hr
  have HR := hide hr
  have hua : (u.a == a) = true := by have := HGT.out; rw [eq_comm, Bool.and_eq_true] at this; exact this.1
  have hd : d2 = s.a := by
    rw [← HD2.out, show u.a = a by simpa using hua, HS.out]
  subst hd
  clear hr hua HO4
  have s2 := HX8.out.cell 2
  have y1 := HZ8.out.cell 1
  have y4 := HZ8.out.cell 4
  simp [TD.cells] at s2 y1 y4
  go_wp2_with fail
  refine (rop_all f y.op s.w y.a s.a _ p r HR.out _ HP8.out.pool hb10).mono ?_
  rintro e w11 ⟨rfl, F2, hp⟩
  have HP9 := hide (HP8.out.trans hp)
  clear hp
  go_wp2
  go_ret2
  exact ⟨rfl, F2, HP9.out⟩
/-- The document's Ite answers as the program's. -/
theorem rite_all : ∀ f, RIteC base g f := by
  intro f
  induction f with
  | zero => intro a b c F p r hO; cases hO
  | succ f ih =>
    intro a b c F p r hO hz W h hbase
    rw [iteF_succ] at hO
    split at hO
    · rename_i hb
      injection hO with hO
      rw [← hO]
      exact rite_bad a b c F p W h hb
    · rename_i hb
      exact rite_good ih a b c F p r W h hbase hz (by simpa using hb) hO
end
end Go.Proofs.YtfjflefgclfbfaaGreat
end
