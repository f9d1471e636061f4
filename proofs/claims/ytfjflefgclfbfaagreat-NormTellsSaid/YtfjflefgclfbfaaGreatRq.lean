/-
  The document's Op. Conditions: those written in each statement.
-/
import Derived.Test.YtfjflefgclfbfaaGreatRp
namespace Go.Proofs.YtfjflefgclfbfaaGreat
open Go.RowKit
set_option linter.unusedVariables false
set_option linter.unusedSimpArgs false
set_option maxRecDepth 100000
theorem opL_eq (rec : PS → Int → Int → Int → Option RS) (f : Nat) (p : PS) (op x a b : Int) : opL rec f p op x a b = 
    (if ((atP p.T a).kind == 0 && (atP p.T b).kind == 0) = true then some (putR p (constT (doU op x (atP p.T a).n (atP p.T b).n)))
  else if op = 8 then bindR (putR p (constT 0)) fun q z => rec q 1 z a
  else if op = 11 then zextF f p x b
  else if (op == 1 && (atP p.T b).kind == 0) = true then bindR (putR p (constT (cutV x (IntKind.u64.wrap (-(atP p.T b).n))))) fun q z => rec q 0 a z
  else if (turnsB op && ((atP p.T a).kind == 0 || (!((atP p.T b).kind == 0) && decide (b < a)))) = true then rec p op b a
  else if assocB p.T (atP p.T a) op x ((atP p.T b).kind == 0) = true then bindR (putR p (constT (cutV x (IntKind.u64.wrap ((atP p.T (atP p.T a).b).n + (atP p.T b).n))))) fun q z => rec q 0 (atP p.T a).a z
  else if ((atP p.T b).kind == 0 && sameB op x (atP p.T b).n) = true then zextF f p x a
  else if ((atP p.T b).kind == 0 && nilB op (atP p.T b).n) = true then some (putR p (constT 0))
  else if (a == b && (op == 1 || op == 10)) = true then some (putR p (constT 0))
  else if (a == b && (op == 5 || op == 4)) = true then zextF f p x a
  else some (putR p ⟨2, op, x, 0, a, b, 0⟩)) := rfl
/-- What follows the laws of a constant on the right. -/
def tailL (f : Nat) (p : PS) (op x a b : Int) : Option RS :=
  if (a == b && (op == 1 || op == 10)) = true then some (putR p (constT 0))
  else if (a == b && (op == 5 || op == 4)) = true then zextF f p x a
  else some (putR p ⟨2, op, x, 0, a, b, 0⟩)
theorem opL_right {f : Nat} {p : PS} {op x a b : Int} {r : RS} (k0 : ((atP p.T a).kind == 0) = false) (kb : ((atP p.T b).kind == 0) = true) (h8 : op ≠ 8) (h11 : op ≠ 11) (h1 : op ≠ 1)
    (h : opL (fun q o u v => opF f q o x u v) f p op x a b = some r) : ∃ q, byF f p op x a (atP p.T a) (atP p.T b).n = some q ∧ (∀ s, q = some s → s = r) ∧ (q = none → tailL f p op x a b = some r) := by
  rw [opL_eq, k0, kb, Bool.false_and, if_neg (by simp), if_neg h8, if_neg h11, if_neg (by simp [h1]), if_neg (by simp)] at h
  simp only [Bool.true_and] at h
  unfold byF
  split at h
  · rename_i hA
    rw [if_pos hA, h]
    exact ⟨some r, rfl, (fun s e => by injection e with e; exact e.symm), (fun e => by cases e)⟩
  rename_i hA
  rw [if_neg hA]
  split at h
  · rename_i hS
    rw [if_pos hS, h]
    exact ⟨some r, rfl, (fun s e => by injection e with e; exact e.symm), (fun e => by cases e)⟩
  rename_i hS
  rw [if_neg hS]
  split at h
  · rename_i hN
    rw [if_pos hN]
    injection h with h
    exact ⟨_, rfl, (fun s e => by injection e with e; rw [← e]; exact h), (fun e => by cases e)⟩
  rename_i hN
  rw [if_neg hN]
  exact ⟨none, rfl, (fun s e => by cases e), (fun _ => h)⟩
section
variable {base g f : Nat}
set_option maxHeartbeats 4000000 in
theorem rop_bad (op x a b : Int) (F : Nat → Prop) (p : PS) (w : World) (h : RefAt w base F g p) (hbad : (hasB p.T a && hasB p.T b) = false ∨ doOk op x = false) :
    Calls Tryz.prog 22 #[.pointer (some ⟨g, 0, none⟩), .int .i8 op, .int .i8 x, .int .i64 a, .int .i64 b] w (RetR base g F w (p, 0, 2)) := by
  have HP := hide (RG.refl h)
  have HB := hide hbad
  clear h hbad
  go_enter Tryz.func22, Tryz.ntmps22
  cases hd : doOk op x
  · have HD := hide hd
    clear hd
    go_wp2_with fail
    refine (rdo_no 0 0 _ HD.out).mono ?_
    rintro e w1 ⟨rfl, rfl⟩
    go_wp2
    go_ret2
    exact RetR.same HP.out
  · have HD := hide hd
    have hh : (hasB p.T a && hasB p.T b) = false := HB.out.resolve_right (by rw [hd]; simp)
    have HH := hide hh
    clear hd hh
    go_wp2_with fail
    refine (rdo_yes 0 0 zero_u64 zero_u64 _ HD.out).mono ?_
    rintro e w1 ⟨rfl, rfl⟩
    generalize doU op x 0 0 = v00
    go_wp2_with fail
    have hb0 : Below w.heap.size w (w.alloc (.cells #[.int .i64 a, .int .i64 b] 3)) := bl_alloc' w _
    refine (rthere_any [a, b] _ 2 2 _ (HP.out.pool.below hb0) (reads_list w 3 [.int .i64 a, .int .i64 b] 2 rfl) rfl (Nat.le_refl _) (by omega)).mono ?_
    rintro e w2 ⟨rfl, hb⟩
    have HP1 := hide ((HP.out.step hb0).step hb)
    rw [show [a, b].all (hasB p.T) = false by simpa using HH.out]
    clear hb hb0
    go_wp2
    go_ret2
    exact RetR.same HP1.out
/-- What stands where Op's laws begin: the pool, the two terms in variables. -/
structure RO (base g : Nat) (F : Nat → Prop) (w : World) (F' : Nat → Prop) (p : PS) (s y : TD) (bs by_ : Nat) (W : World) : Prop where
  pg : RG base g F w F' p W
  one : Blk W bs 67 s.cells.toArray
  two : Blk W by_ 67 y.cells.toArray
  ns : ¬ F' bs
  ny : ¬ F' by_
section
variable {F F1 F2 : Nat → Prop} {p p1 : PS} {s y : TD} {bs by_ : Nat} {w W V : World}
theorem RO.step (h : RO base g F w F1 p s y bs by_ W) (hb : Below W.heap.size W V) : RO base g F w F1 p s y bs by_ V :=
  ⟨h.pg.step hb, h.one.below hb h.one.lt, h.two.below hb h.two.lt, h.ns, h.ny⟩
theorem RO.trans (h : RO base g F w F1 p s y bs by_ W) (k : RG base g F1 W F2 p1 V) : RO base g F w F2 p1 s y bs by_ V :=
  ⟨h.pg.trans k, (k.blk h.one h.ns).1, (k.blk h.two h.ny).1, (k.blk h.one h.ns).2, (k.blk h.two h.ny).2⟩
end
set_option maxHeartbeats 16000000 in
theorem rop_good (hIH : ROpC base g f) (op x a0 b0 : Int) (F : Nat → Prop) (p : PS) (r : RS) (w : World) (h : RefAt w base F g p) (hbase : base ≤ w.heap.size) (hD : doOk op x = true) (hH : (hasB p.T a0 && hasB p.T b0) = true)
    (hO : (if (bothP p x a0 b0).2.2.2 = 0 then opL (fun q o u v => opF f q o x u v) f (bothP p x a0 b0).1 op x (bothP p x a0 b0).2.1 (bothP p x a0 b0).2.2.1 else some ((bothP p x a0 b0).1, 0, (bothP p x a0 b0).2.2.2)) = some r) :
    Calls Tryz.prog 22 #[.pointer (some ⟨g, 0, none⟩), .int .i8 op, .int .i8 x, .int .i64 a0, .int .i64 b0] w (RetR base g F w r) := by
  have hhab : hasB p.T a0 = true ∧ hasB p.T b0 = true := by simpa using hH
  obtain ⟨p1, a, e1, hop1⟩ : ∃ p1 a e1, operandP p x a0 = (p1, a, e1) := ⟨_, _, _, rfl⟩
  obtain ⟨p2, b, e2, hop2⟩ : ∃ p2 b e2, operandP p1 x b0 = (p2, b, e2) := ⟨_, _, _, rfl⟩
  have hbp : bothP p x a0 b0 = (if e1 = 0 then (p2, a, b, e2) else (p1, a, 0, e1)) := by
    unfold bothP
    rw [hop1]
    dsimp only
    rw [hop2]
  have hO' : (if e1 = 0 then (if e2 = 0 then opL (fun q o u v => opF f q o x u v) f p2 op x a b else some (p2, 0, e2)) else some (p1, 0, e1)) = some r := by
    by_cases h1 : e1 = 0
    · rw [if_pos h1] at hbp ⊢
      rw [hbp] at hO
      exact hO
    · rw [if_neg h1] at hbp ⊢
      rw [hbp] at hO
      dsimp only at hO
      rw [if_neg h1] at hO
      exact hO
  clear hbp
  have HFA := hide (fun (k1 : e1 = 0) (k2 : e2 = 0) => by
    have e : bothP p x a0 b0 = (p2, a, b, e2) := by
      unfold bothP
      rw [hop1]
      dsimp only
      rw [hop2, if_pos k1]
    have hbf := both_facts h.wf h.rng hhab.1 hhab.2 (x := x) (by rw [e]; exact k2)
    rw [e] at hbf
    exact ⟨hbf.1, hbf.2.1⟩ : ∀ (k1 : e1 = 0) (k2 : e2 = 0), hasB p2.T a = true ∧ hasB p2.T b = true)
  have HOP1 := hide hop1
  have HOP2 := hide hop2
  have HO1 := hide hO'
  have HIH := hide hIH
  have HDO := hide hD
  have HHA := hide hH
  have HXW := hide (doOk_yes hD).1
  have HRO_ := hide (doOk_yes hD).2
  have HP := hide (RG.refl h)
  clear hop1 hop2 hO hO' hIH hD hH h hhab
  go_enter Tryz.func22, Tryz.ntmps22
  go_wp2_with fail
  refine (rdo_yes 0 0 zero_u64 zero_u64 _ HDO.out).mono ?_
  rintro e w1 ⟨rfl, rfl⟩
  generalize doU op x 0 0 = v00
  go_wp2_with fail
  have hb0 : Below w.heap.size w (w.alloc (.cells #[.int .i64 a0, .int .i64 b0] 3)) := bl_alloc' w _
  refine (rthere_any [a0, b0] _ 2 2 _ (HP.out.pool.below hb0) (reads_list w 3 [.int .i64 a0, .int .i64 b0] 2 rfl) rfl (Nat.le_refl _) (by omega)).mono ?_
  rintro e w2 ⟨rfl, hb⟩
  have HP1 := hide ((HP.out.step hb0).step hb)
  rw [show [a0, b0].all (hasB p.T) = true by simpa using HHA.out]
  clear hb hb0 HP
  have hbs1 : base ≤ w2.heap.size := Nat.le_trans hbase HP1.out.size
  go_wp2_with fail
  refine (operand_r x a0 HXW.out _ HP1.out.pool hbs1).mono ?_
  rintro e w3 ⟨rfl, F1, hp⟩
  rw [HOP1.out] at hp ⊢
  have HP2 := hide (HP1.out.trans hp)
  clear hp HP1
  dsimp only at HP2 ⊢
  cases h1 : (e1 == 0)
  · have hr := HO1.out
    rw [if_neg (by simpa using h1)] at hr
    injection hr with hr
    subst hr
    go_wp2
    go_ret2
    exact RetR.same HP2.out
  have hr := HO1.out
  rw [if_pos (by simpa using h1)] at hr
  have HO2 := hide hr
  have HE1 := hide (by simpa using h1 : e1 = 0)
  clear hr HO1
  have hbs2 : base ≤ w3.heap.size := Nat.le_trans hbase HP2.out.size
  go_wp2_with fail
  refine (operand_r x b0 HXW.out _ HP2.out.pool hbs2).mono ?_
  rintro e w4 ⟨rfl, F2, hp⟩
  rw [HOP2.out] at hp ⊢
  have HP3 := hide (HP2.out.trans hp)
  clear hp HP2
  dsimp only at HP3 ⊢
  cases h2 : (e2 == 0)
  · have hr := HO2.out
    rw [if_neg (by simpa using h2)] at hr
    injection hr with hr
    subst hr
    go_wp2
    go_ret2
    exact RetR.same HP3.out
  have hr := HO2.out
  rw [if_pos (by simpa using h2)] at hr
  have HO3 := hide hr
  have HF := hide (HFA.out HE1.out (by simpa using h2))
  clear hr HO2 HFA
  obtain ⟨s, hs⟩ : ∃ s, atP p2.T a = s := ⟨_, rfl⟩
  obtain ⟨y, hy⟩ : ∃ y, atP p2.T b = y := ⟨_, rfl⟩
  have HS := hide hs
  have HY := hide hy
  clear hs hy
  go_wp2_with fail
  refine (get_r a _ HP3.out.pool).mono ?_
  rintro e w5 ⟨rfl, hb⟩
  have HP4 := hide (HP3.out.step hb)
  clear hb HP3
  rw [HS.out]
  go_wp2_with fail
  refine (get_r b _ HP4.out.pool).mono ?_
  rintro e w6 ⟨rfl, hb⟩
  have HP5 := hide (HP4.out.step hb)
  clear hb HP4
  rw [HY.out]
  have NF := hide (fun k (hk : w6.heap.size ≤ k) q => by have := (HP5.out.pool.fb k q).2; omega : ∀ k, w6.heap.size ≤ k → ¬ F2 k)
  have hal1 := bl_alloc' w6 (.cells zeroT.cells.toArray 67)
  have hal2 := bl_alloc' (w6.alloc (.cells zeroT.cells.toArray 67)) (.cells zeroT.cells.toArray 67)
  have HA1 := hide ((Blk.new w6 67 zeroT.cells.toArray).below hal2 (by simp))
  have hA2 := Blk.new (w6.alloc (.cells zeroT.cells.toArray 67)) 67 zeroT.cells.toArray
  simp only [World.size_alloc] at hA2
  have HA2 := hide hA2
  have HL := hide (hal1.trans (hal2.mono hal1.size))
  clear hal1 hal2 hA2
  have hov : ∀ t : TD, overC zeroT.cells 0 t.cells = t.cells := fun t => by unfold overC; simp [TD.cells]
  have HOV := hide hov
  clear hov
  obtain ⟨bs, hbs⟩ : ∃ b, w6.heap.size = b := ⟨_, rfl⟩
  have HBS := hide hbs
  rw [hbs] at HA1 HA2
  have tok1 := True.intro
  have tok2 := True.intro
  go_upto_region 11 with (first
    | (clear tok1
       refine wpList_store_at rfl 67 (.tmp 15) (.tmp 64) rfl bs 0 67 zeroT.cells s.cells (termV s) HA1.out (by rw [← HBS.out]; rfl) (by rfl) rfl sizT (by simp [TD.cells]) (TD.one _) ?_
       intro w7 G7 L7 Z7
       have HB1 := hide (by have := G7; rw [HOV.out] at this; exact this : Blk w7 bs 67 s.cells.toArray)
       have HB2 := hide (HA2.out.grown L7 (fun e => by injection e with e; omega))
       have HL2 := hide (HL.out.grown L7 HL.out.size (fun q e => by injection e with e; have := HBS.out; omega))
       clear G7 L7 Z7)
    | (clear tok2
       refine wpList_store_at rfl 67 (.tmp 16) (.tmp 67) rfl (bs + 1) 0 67 zeroT.cells y.cells (termV y) HB2.out (by rw [← HBS.out]; rfl) (by rfl) rfl sizT (by simp [TD.cells]) (TD.one _) ?_
       intro w8 G8 L8 Z8
       have HC1 := hide (HB1.out.grown L8 (fun e => by injection e with e; omega))
       have HC2 := hide (by have := G8; rw [HOV.out] at this; exact this : Blk w8 (bs + 1) 67 y.cells.toArray)
       have HL3 := hide (HL2.out.grown L8 HL2.out.size (fun q e => by injection e with e; have := HBS.out; omega))
       clear G8 L8 Z8)
    | fail)
  have HRO : Hid (RO base g F w F2 p2 s y bs (bs + 1) w8) := hide ⟨HP5.out.step HL3.out, HC1.out, HC2.out, NF.out _ (by rw [HBS.out]; exact Nat.le_refl _), NF.out _ (by rw [HBS.out]; omega)⟩
  clear HA1 HA2 HL HOV HB1 HB2 HL2 HC1 HC2 HL3 NF HP5
  obtain ⟨by_, hby⟩ : ∃ b, bs + 1 = b := ⟨_, rfl⟩
  rw [hby] at HRO
  try simp only [HBS.out, hby]
  have s0 := HRO.out.one.cell 0
  have y0 := HRO.out.two.cell 0
  simp [TD.cells] at s0 y0
  have hr := HO3.out
  rw [opL_eq, HS.out, HY.out] at hr
  have HO4 := hide hr
  clear hr
  obtain ⟨lf, hlf⟩ : ∃ v, (s.kind == 0) = v := ⟨_, rfl⟩
  obtain ⟨rt, hrt⟩ : ∃ v, (y.kind == 0) = v := ⟨_, rfl⟩
  have HLF := hide hlf
  have HRT := hide hrt
  rw [hlf, hrt] at HO4
  try simp only [Act.put, List.setIfInBounds_toArray, List.set_cons_zero, List.set_cons_succ]
  go_cut [75] from 68 to 75 (fun v wc => v = .bool (lf && rt) ∧ wc = w8)
  case first =>
    as_aux_lemma =>
      cases lf
      · go_wp2
        go_meet
        case rel => exact ⟨rfl, rfl⟩
      · cases rt
        all_goals
          go_wp2
          go_meet
          case rel => exact ⟨rfl, rfl⟩
  case rest =>
    obtain ⟨rfl, rfl⟩ := hcut
    clear hlf hrt
    obtain ⟨bt, hbt⟩ : ∃ v, (lf && rt) = v := ⟨_, rfl⟩
    have HBT := hide hbt
    rw [hbt]
    rw [hbt] at HO4
    clear hbt s0 y0
    cases bt
    rotate_left
    · have hr := HO4.out
      rw [if_pos rfl] at hr
      injection hr with hr
      have HE := hide hr
      have HSN := hide (show U64 s.n from HS.out ▸ (atP_wf HRO.out.pg.pool.rng a).2.2.2.1)
      have HYN := hide (show U64 y.n from HY.out ▸ (atP_wf HRO.out.pg.pool.rng b).2.2.2.1)
      clear hr
      have s3 := HRO.out.one.cell 3
      have y3 := HRO.out.two.cell 3
      simp [TD.cells] at s3 y3
      go_wp2_with fail
      refine (rdo_yes s.n y.n HSN.out HYN.out _ HDO.out).mono ?_
      rintro e w7 ⟨rfl, rfl⟩
      have HDU := hide (doU_u64 HDO.out HSN.out HYN.out)
      obtain ⟨v, hv⟩ : ∃ v, doU op x s.n y.n = v := ⟨_, rfl⟩
      rw [hv] at HE HDU ⊢
      clear hv
      go_wp2_with fail
      refine (const_r v HDU.out _ HRO.out.pg.pool (Nat.le_trans hbase HRO.out.pg.size)).mono ?_
      rintro e w9 ⟨rfl, F3, hp⟩
      have HPE := hide (HRO.out.pg.trans hp)
      clear hp
      go_wp2
      go_ret2
      rw [← HE.out]
      exact ⟨rfl, F3, HPE.out⟩
    have hr := HO4.out
    rw [if_neg (by simp)] at hr
    have HO5 := hide hr
    clear hr HO4
    cases h8 : (op == 8)
    rotate_left
    · have hr := HO5.out
      rw [if_pos (by simpa using h8)] at hr
      have HR1 := hide hr
      clear hr HO5
      go_wp2_with fail
      refine (const_r _ (zero_u64) _ HRO.out.pg.pool (Nat.le_trans hbase HRO.out.pg.size)).mono ?_
      rintro e w7 ⟨rfl, F3, hp⟩
      obtain ⟨q, hq⟩ : ∃ q, putR p2 (constT (0)) = q := ⟨_, rfl⟩
      rw [hq] at hp HR1 ⊢
      have HRO2 := hide (HRO.out.trans hp)
      obtain ⟨p3, n3, e3⟩ := q
      clear hp hq HRO
      have HRO := HRO2
      clear HRO2
      dsimp only at HR1 HRO ⊢
      have HR2 : Hid ((if e3 = 0 then opF f p3 1 x n3 a else some (p3, 0, e3)) = some r) := hide (by have := HR1.out; unfold bindR at this; exact this)
      cases he3 : (e3 == 0)
      · have hr := HR2.out
        rw [if_neg (by simpa using he3)] at hr
        injection hr with hr
        subst hr
        go_wp2
        go_ret2
        exact RetR.same HRO.out.pg
      · have hr := HR2.out
        rw [if_pos (by simpa using he3)] at hr
        have HR3 := hide hr
        clear hr
        go_wp2_with fail
        refine (HIH.out 1 x n3 a _ p3 r HR3.out _ HRO.out.pg.pool (Nat.le_trans hbase HRO.out.pg.size)).mono ?_
        rintro e w7 ⟨rfl, F3, hp⟩
        have HPE := hide (HRO.out.pg.trans hp)
        clear hp
        go_wp2
        go_ret2
        exact ⟨rfl, F3, HPE.out⟩
    cases h11 : (op == 11)
    rotate_left
    · have hr := HO5.out
      rw [if_neg (by simpa using h8), if_pos (by simpa using h11)] at hr
      have HR1 := hide hr
      clear hr HO5
      go_wp2_with fail
      refine (zext_r_good x (by have := HXW.out; unfold wdB; simp; omega) f b HF.out.2 _ r HR1.out _ HRO.out.pg.pool (Nat.le_trans hbase HRO.out.pg.size)).mono ?_
      rintro e w7 ⟨rfl, F3, hp⟩
      have HPE := hide (HRO.out.pg.trans hp)
      clear hp
      go_wp2
      go_ret2
      exact ⟨rfl, F3, HPE.out⟩
    have hr := HO5.out
    rw [if_neg (by simpa using h8), if_neg (by simpa using h11)] at hr
    have HO6 := hide hr
    clear hr HO5
    have y0 := HRO.out.two.cell 0
    simp [TD.cells] at y0
    cases rt
    · -- no constant on the right
      have kY := HRT.out
      have kY' : (y.kind != 0) = true := by unfold bne; rw [kY]; rfl
      have hr := HO6.out
      rw [if_neg (by simp)] at hr
      have HO7 := hide hr
      clear hr HO6
      go_upto_region 21 with fail
      go_cut [122] from 116 to 122 (fun v wd => v = .bool false ∧ wd = wc)
      case first =>
        as_aux_lemma =>
          cases h1 : (op == 1)
          all_goals
            go_wp2
            go_meet
            case rel => exact ⟨rfl, rfl⟩
      case rest =>
        obtain ⟨rfl, rfl⟩ := hcut
        have s0 := HRO.out.one.cell 0
        simp [TD.cells] at s0
        go_upto_region 26 with fail
        go_cut [159] from 143 to 159 (fun v wd => v = .bool (turnsB op && (lf || decide (b < a))) ∧ wd = wc)
        case first =>
          as_aux_lemma =>
            have kS := HLF.out
            go_wp2_with fail
            refine (commutes_r op _).mono ?_
            rintro e w6' ⟨rfl, rfl⟩
            cases htn : turnsB op
            · go_wp2
              go_meet
              case rel => exact ⟨by simp [htn], rfl⟩
            cases lf
            · go_wp2
              go_meet
              case rel => exact ⟨by simp [htn], rfl⟩
            · go_wp2
              go_meet
              case rel => exact ⟨by simp [htn], rfl⟩
        case rest =>
          obtain ⟨rfl, rfl⟩ := hcut
          obtain ⟨sw, hsw⟩ : ∃ v, (turnsB op && (lf || decide (b < a))) = v := ⟨_, rfl⟩
          rw [hsw]
          have hr := HO7.out
          rw [show (turnsB op && (lf || (!false && decide (b < a)))) = sw by rw [← hsw]; simp] at hr
          have HO8 := hide hr
          clear hr HO7 hsw
          cases sw
          rotate_left
          · have hr := HO8.out
            rw [if_pos rfl] at hr
            have HR1 := hide hr
            clear hr
            go_wp2_with fail
            refine (HIH.out op x b a _ p2 r HR1.out _ HRO.out.pg.pool (Nat.le_trans hbase HRO.out.pg.size)).mono ?_
            rintro e w7 ⟨rfl, F3, hp⟩
            have HPE := hide (HRO.out.pg.trans hp)
            clear hp
            go_wp2
            go_ret2
            exact ⟨rfl, F3, HPE.out⟩
          have HTL : Hid (tailL f p2 op x a b = some r) := hide (by
            have hr := HO8.out
            rw [if_neg (by simp), if_neg (by unfold assocB; simp), Bool.false_and, Bool.false_and, if_neg (by simp), if_neg (by simp)] at hr
            exact hr)
          clear HO8 s0
          have HTW := hide (opT_wf (op := op) (x := x) (by have := HRO_.out; unfold I8; omega) (by have := HXW.out; unfold I8; omega) (has_i64 HRO.out.pg.pool.wf HF.out.1) (has_i64 HRO.out.pg.pool.wf HF.out.2))
          have qbo := fun w => build_op op x a b w
          cases hab : (a == b)
          · go_wp2_with fail
            have hr : some (putR p2 (opT op x a b)) = some r := by have h := HTL.out; unfold tailL at h; simp only [hab, Bool.true_and, Bool.false_and, Bool.true_or, Bool.or_true, Bool.false_or, Bool.or_false, Bool.or_self, Bool.and_true, Bool.and_false, if_true, if_false, Bool.false_eq_true] at h; exact h
            injection hr with hr
            have HE := hide hr
            clear hr
            refine (rput_any _ HTW.out _ HRO.out.pg.pool (Nat.le_trans hbase HRO.out.pg.size)).mono ?_
            rintro e w7 ⟨rfl, F3, hp⟩
            have HPE := hide (HRO.out.pg.trans hp)
            clear hp
            go_wp2
            go_ret2
            rw [← HE.out]
            exact ⟨rfl, F3, HPE.out⟩
          cases t1 : (op == 1)
          rotate_left
          · have hr : some (putR p2 (constT 0)) = some r := by have h := HTL.out; unfold tailL at h; simp only [hab, t1, Bool.true_and, Bool.false_and, Bool.true_or, Bool.or_true, Bool.false_or, Bool.or_false, Bool.or_self, Bool.and_true, Bool.and_false, if_true, if_false, Bool.false_eq_true] at h; exact h
            injection hr with hr
            have HE := hide hr
            clear hr
            go_wp2_with fail
            refine (const_r 0 zero_u64 _ HRO.out.pg.pool (Nat.le_trans hbase HRO.out.pg.size)).mono ?_
            rintro e w7 ⟨rfl, F3, hp⟩
            have HPE := hide (HRO.out.pg.trans hp)
            clear hp
            go_wp2
            go_ret2
            rw [← HE.out]
            exact ⟨rfl, F3, HPE.out⟩
          cases t10 : (op == 10)
          rotate_left
          · have hr : some (putR p2 (constT 0)) = some r := by have h := HTL.out; unfold tailL at h; simp only [hab, t1, t10, Bool.true_and, Bool.false_and, Bool.true_or, Bool.or_true, Bool.false_or, Bool.or_false, Bool.or_self, Bool.and_true, Bool.and_false, if_true, if_false, Bool.false_eq_true] at h; exact h
            injection hr with hr
            have HE := hide hr
            clear hr
            go_wp2_with fail
            refine (const_r 0 zero_u64 _ HRO.out.pg.pool (Nat.le_trans hbase HRO.out.pg.size)).mono ?_
            rintro e w7 ⟨rfl, F3, hp⟩
            have HPE := hide (HRO.out.pg.trans hp)
            clear hp
            go_wp2
            go_ret2
            rw [← HE.out]
            exact ⟨rfl, F3, HPE.out⟩
          cases t5 : (op == 5)
          rotate_left
          · have hr : zextF f p2 x a = some r := by have h := HTL.out; unfold tailL at h; simp only [hab, t1, t10, t5, Bool.true_and, Bool.false_and, Bool.true_or, Bool.or_true, Bool.false_or, Bool.or_false, Bool.or_self, Bool.and_true, Bool.and_false, if_true, if_false, Bool.false_eq_true] at h; exact h
            have HE := hide hr
            clear hr
            go_wp2_with fail
            refine (zext_r_good x (by have := HXW.out; unfold wdB; simp; omega) f a HF.out.1 _ r HE.out _ HRO.out.pg.pool (Nat.le_trans hbase HRO.out.pg.size)).mono ?_
            rintro e w7 ⟨rfl, F3, hp⟩
            have HPE := hide (HRO.out.pg.trans hp)
            clear hp
            go_wp2
            go_ret2
            exact ⟨rfl, F3, HPE.out⟩
          cases t4 : (op == 4)
          rotate_left
          · have hr : zextF f p2 x a = some r := by have h := HTL.out; unfold tailL at h; simp only [hab, t1, t10, t5, t4, Bool.true_and, Bool.false_and, Bool.true_or, Bool.or_true, Bool.false_or, Bool.or_false, Bool.or_self, Bool.and_true, Bool.and_false, if_true, if_false, Bool.false_eq_true] at h; exact h
            have HE := hide hr
            clear hr
            go_wp2_with fail
            refine (zext_r_good x (by have := HXW.out; unfold wdB; simp; omega) f a HF.out.1 _ r HE.out _ HRO.out.pg.pool (Nat.le_trans hbase HRO.out.pg.size)).mono ?_
            rintro e w7 ⟨rfl, F3, hp⟩
            have HPE := hide (HRO.out.pg.trans hp)
            clear hp
            go_wp2
            go_ret2
            exact ⟨rfl, F3, HPE.out⟩
          · go_wp2_with fail
            have hr : some (putR p2 (opT op x a b)) = some r := by have h := HTL.out; unfold tailL at h; simp only [hab, t1, t10, t5, t4, Bool.true_and, Bool.false_and, Bool.true_or, Bool.or_true, Bool.false_or, Bool.or_false, Bool.or_self, Bool.and_true, Bool.and_false, if_true, if_false, Bool.false_eq_true] at h; exact h
            injection hr with hr
            have HE := hide hr
            clear hr
            refine (rput_any _ HTW.out _ HRO.out.pg.pool (Nat.le_trans hbase HRO.out.pg.size)).mono ?_
            rintro e w7 ⟨rfl, F3, hp⟩
            have HPE := hide (HRO.out.pg.trans hp)
            clear hp
            go_wp2
            go_ret2
            rw [← HE.out]
            exact ⟨rfl, F3, HPE.out⟩
    · have hlf : lf = false := by have := HBT.out; simpa using this
      subst hlf
      have kS := HLF.out
      have kY := HRT.out
      have kY' : (y.kind != 0) = false := by unfold bne; rw [kY]; rfl
      have s0 := HRO.out.one.cell 0
      simp [TD.cells] at s0
      cases h1 : (op == 1)
      rotate_left
      · have hr := HO6.out
        rw [if_pos (by rw [h1]; rfl)] at hr
        have HR1 := hide hr
        have HYN := hide (wrap_u64' (-y.n))
        have y3 := HRO.out.two.cell 3
        simp [TD.cells] at y3
        clear hr HO6
        go_wp2_with fail
        try rw [show (0 : Int) - y.n = -y.n by omega]
        refine (rcut_any _ _ HYN.out _).mono ?_
        rintro e w6' ⟨rfl, rfl⟩
        go_wp2_with fail
        refine (const_r _ (cutV_u64 HYN.out) _ HRO.out.pg.pool (Nat.le_trans hbase HRO.out.pg.size)).mono ?_
        rintro e w7 ⟨rfl, F3, hp⟩
        obtain ⟨q, hq⟩ : ∃ q, putR p2 (constT (cutV x (IntKind.u64.wrap (-y.n)))) = q := ⟨_, rfl⟩
        rw [hq] at hp HR1 ⊢
        have HRO2 := hide (HRO.out.trans hp)
        obtain ⟨p3, n3, e3⟩ := q
        clear hp hq HRO
        have HRO := HRO2
        clear HRO2
        dsimp only at HR1 HRO ⊢
        have HR2 : Hid ((if e3 = 0 then opF f p3 0 x a n3 else some (p3, 0, e3)) = some r) := hide (by have := HR1.out; unfold bindR at this; exact this)
        cases he3 : (e3 == 0)
        · have hr := HR2.out
          rw [if_neg (by simpa using he3)] at hr
          injection hr with hr
          subst hr
          go_wp2
          go_ret2
          exact RetR.same HRO.out.pg
        · have hr := HR2.out
          rw [if_pos (by simpa using he3)] at hr
          have HR3 := hide hr
          clear hr
          go_wp2_with fail
          refine (HIH.out 0 x a n3 _ p3 r HR3.out _ HRO.out.pg.pool (Nat.le_trans hbase HRO.out.pg.size)).mono ?_
          rintro e w7 ⟨rfl, F3, hp⟩
          have HPE := hide (HRO.out.pg.trans hp)
          clear hp
          go_wp2
          go_ret2
          exact ⟨rfl, F3, HPE.out⟩
      have hr := HO6.out
      rw [if_neg (by rw [h1]; simp)] at hr
      have HO7 := hide hr
      clear hr HO6
      go_upto_region 26 with fail
      go_cut [159] from 143 to 159 (fun v wd => v = .bool false ∧ wd = wc)
      case first =>
        as_aux_lemma =>
          go_wp2_with fail
          refine (commutes_r op _).mono ?_
          rintro e w6' ⟨rfl, rfl⟩
          cases turnsB op
          all_goals
            go_wp2
            go_meet
            case rel => exact ⟨rfl, rfl⟩
      case rest =>
        obtain ⟨rfl, rfl⟩ := hcut
        have y3 := HRO.out.two.cell 3
        simp [TD.cells] at y3
        have HQX := hide (opL_right (f := f) (p := p2) (op := op) (x := x) (a := a) (b := b) (r := r) (by rw [HS.out]; exact kS) (by rw [HY.out]; exact kY) (by simpa using h8) (by simpa using h11) (by simpa using h1) HO3.out)
        obtain ⟨q, hq⟩ := HQX.out
        rw [HS.out, HY.out] at hq
        have HQ1 := hide hq.1
        have HQ2 := hide hq.2.1
        have HQ3 := hide hq.2.2
        have HYN := hide (show U64 y.n from HY.out ▸ (atP_wf HRO.out.pg.pool.rng b).2.2.2.1)
        have HSW := hide (show s.wf from HS.out ▸ atP_wf HRO.out.pg.pool.rng a)
        clear hq HQX HO7
        have tok1 := True.intro
        go_wp2_with (first
          | (clear tok1
             refine wpList_load_at rfl 67 (.tmp 15) rfl ⟨bs, 0, none⟩ (by rfl) s.cells _ (blk_list HRO.out.one) Tryz.underlying67 rfl sizT ?_)
          | fail)
        refine (by_r HIH.out op x a s y.n HYN.out HSW.out HRO_.out HXW.out _ p2 q _ HRO.out.pg.pool (Nat.le_trans hbase HRO.out.pg.size) HF.out.1 HQ1.out).mono ?_
        rintro e w9 hret
        cases q with
        | some r1 =>
          obtain ⟨rfl, F3, hp⟩ := hret
          have hrr := HQ2.out r1 rfl
          subst hrr
          have HPE := hide (HRO.out.pg.trans hp)
          clear hp
          obtain ⟨p4, n4, e4⟩ := r1
          dsimp only at HPE ⊢
          go_wp2
          go_ret2
          exact ⟨rfl, F3, HPE.out⟩
        | none =>
          obtain ⟨rfl, F3, hp⟩ := hret
          have HRO2 := hide (HRO.out.trans hp)
          have HTL := hide (HQ3.out rfl)
          clear hp HRO s0 y0 y3 HQ1 HQ2 HQ3
          have HRO := HRO2
          clear HRO2
          have HTW := hide (opT_wf (op := op) (x := x) (by have := HRO_.out; unfold I8; omega) (by have := HXW.out; unfold I8; omega) (has_i64 HRO.out.pg.pool.wf HF.out.1) (has_i64 HRO.out.pg.pool.wf HF.out.2))
          have qbo := fun w => build_op op x a b w
          cases hab : (a == b)
          · go_wp2_with fail
            have hr : some (putR p2 (opT op x a b)) = some r := by have h := HTL.out; unfold tailL at h; simp only [hab, Bool.true_and, Bool.false_and, Bool.true_or, Bool.or_true, Bool.false_or, Bool.or_false, Bool.or_self, Bool.and_true, Bool.and_false, if_true, if_false, Bool.false_eq_true] at h; exact h
            injection hr with hr
            have HE := hide hr
            clear hr
            refine (rput_any _ HTW.out _ HRO.out.pg.pool (Nat.le_trans hbase HRO.out.pg.size)).mono ?_
            rintro e w7 ⟨rfl, F3, hp⟩
            have HPE := hide (HRO.out.pg.trans hp)
            clear hp
            go_wp2
            go_ret2
            rw [← HE.out]
            exact ⟨rfl, F3, HPE.out⟩
          have t1 := h1
          cases t10 : (op == 10)
          rotate_left
          · have hr : some (putR p2 (constT 0)) = some r := by have h := HTL.out; unfold tailL at h; simp only [hab, t1, t10, Bool.true_and, Bool.false_and, Bool.true_or, Bool.or_true, Bool.false_or, Bool.or_false, Bool.or_self, Bool.and_true, Bool.and_false, if_true, if_false, Bool.false_eq_true] at h; exact h
            injection hr with hr
            have HE := hide hr
            clear hr
            go_wp2_with fail
            refine (const_r 0 zero_u64 _ HRO.out.pg.pool (Nat.le_trans hbase HRO.out.pg.size)).mono ?_
            rintro e w7 ⟨rfl, F3, hp⟩
            have HPE := hide (HRO.out.pg.trans hp)
            clear hp
            go_wp2
            go_ret2
            rw [← HE.out]
            exact ⟨rfl, F3, HPE.out⟩
          cases t5 : (op == 5)
          rotate_left
          · have hr : zextF f p2 x a = some r := by have h := HTL.out; unfold tailL at h; simp only [hab, t1, t10, t5, Bool.true_and, Bool.false_and, Bool.true_or, Bool.or_true, Bool.false_or, Bool.or_false, Bool.or_self, Bool.and_true, Bool.and_false, if_true, if_false, Bool.false_eq_true] at h; exact h
            have HE := hide hr
            clear hr
            go_wp2_with fail
            refine (zext_r_good x (by have := HXW.out; unfold wdB; simp; omega) f a HF.out.1 _ r HE.out _ HRO.out.pg.pool (Nat.le_trans hbase HRO.out.pg.size)).mono ?_
            rintro e w7 ⟨rfl, F3, hp⟩
            have HPE := hide (HRO.out.pg.trans hp)
            clear hp
            go_wp2
            go_ret2
            exact ⟨rfl, F3, HPE.out⟩
          cases t4 : (op == 4)
          rotate_left
          · have hr : zextF f p2 x a = some r := by have h := HTL.out; unfold tailL at h; simp only [hab, t1, t10, t5, t4, Bool.true_and, Bool.false_and, Bool.true_or, Bool.or_true, Bool.false_or, Bool.or_false, Bool.or_self, Bool.and_true, Bool.and_false, if_true, if_false, Bool.false_eq_true] at h; exact h
            have HE := hide hr
            clear hr
            go_wp2_with fail
            refine (zext_r_good x (by have := HXW.out; unfold wdB; simp; omega) f a HF.out.1 _ r HE.out _ HRO.out.pg.pool (Nat.le_trans hbase HRO.out.pg.size)).mono ?_
            rintro e w7 ⟨rfl, F3, hp⟩
            have HPE := hide (HRO.out.pg.trans hp)
            clear hp
            go_wp2
            go_ret2
            exact ⟨rfl, F3, HPE.out⟩
          · go_wp2_with fail
            have hr : some (putR p2 (opT op x a b)) = some r := by have h := HTL.out; unfold tailL at h; simp only [hab, t1, t10, t5, t4, Bool.true_and, Bool.false_and, Bool.true_or, Bool.or_true, Bool.false_or, Bool.or_false, Bool.or_self, Bool.and_true, Bool.and_false, if_true, if_false, Bool.false_eq_true] at h; exact h
            injection hr with hr
            have HE := hide hr
            clear hr
            refine (rput_any _ HTW.out _ HRO.out.pg.pool (Nat.le_trans hbase HRO.out.pg.size)).mono ?_
            rintro e w7 ⟨rfl, F3, hp⟩
            have HPE := hide (HRO.out.pg.trans hp)
            clear hp
            go_wp2
            go_ret2
            rw [← HE.out]
            exact ⟨rfl, F3, HPE.out⟩
/-- The document's Op, at every fuel. -/
theorem rop_all : ∀ f, ROpC base g f := by
  intro f
  induction f with
  | zero => intro op x a b F p r hO; cases hO
  | succ f ih =>
    intro op x a b F p r hO W h hbase
    rw [opF_succ] at hO
    split at hO
    · rename_i hb
      injection hO with hO
      rw [← hO]
      exact rop_bad op x a b F p W h (.inl hb)
    · rename_i hb
      split at hO
      · rename_i hd
        injection hO with hO
        rw [← hO]
        exact rop_bad op x a b F p W h (.inr hd)
      · rename_i hd
        exact rop_good ih op x a b F p r W h hbase (by simpa using hd) (by simpa using hb) hO
end
end Go.Proofs.YtfjflefgclfbfaaGreat
