/-
  The document's Cond. Conditions: those written in each statement.
-/
import Derived.Test.YtfjflefgclfbfaaGreatRq
import Derived.Test.YtfjflefgclfbfaaGreatKe
namespace Go.Proofs.YtfjflefgclfbfaaGreat
open Go.RowKit
set_option linter.unusedVariables false
set_option linter.unusedSimpArgs false
set_option maxRecDepth 100000
/-- The document's Cond in plain words: where sides are exchanged it asks itself again. -/
def condRL (rec : PS → Int → Int → Int → Option RS) (p : PS) (cc x a b : Int) : Option RS :=
  let s := atP p.T a
  let y := atP p.T b
  if (s.kind == 0 && y.kind == 0) = true then some (putR p (constT (flagV (holdsU cc x s.n y.n))))
  else if (a == b && cc != 10) = true then some (putR p (constT (flagV (holdsU cc x 0 0))))
  else if turnedB cc = true then rec p (turnedV cc) b a
  else if swapB cc (s.kind == 0) (y.kind == 0) a b = true then rec p cc b a
  else some (putR p (condT cc x a b))
def condR : Nat → PS → Int → Int → Int → Int → Option RS
  | 0, _, _, _, _, _ => none
  | f + 1, p, cc, x, a, b =>
    if (hasB p.T a && hasB p.T b) = false then some (p, 0, 2)
    else if holdsOk cc x = false then some (p, 0, 2)
    else if (bothP p x a b).2.2.2 = 0 then condRL (fun q o u v => condR f q o x u v) (bothP p x a b).1 cc x (bothP p x a b).2.1 (bothP p x a b).2.2.1 else some ((bothP p x a b).1, 0, (bothP p x a b).2.2.2)
theorem condR_succ (f : Nat) (p : PS) (cc x a b : Int) : condR (f + 1) p cc x a b = if (hasB p.T a && hasB p.T b) = false then some (p, 0, 2) else if holdsOk cc x = false then some (p, 0, 2) else if (bothP p x a b).2.2.2 = 0 then condRL (fun q o u v => condR f q o x u v) (bothP p x a b).1 cc x (bothP p x a b).2.1 (bothP p x a b).2.2.1 else some ((bothP p x a b).1, 0, (bothP p x a b).2.2.2) := rfl
theorem beq_sym_ (a b : Int) : (a == b) = (b == a) := by
  rw [Bool.eq_iff_iff, beq_iff_eq, beq_iff_eq]
  exact eq_comm
theorem swap_once {cc a b : Int} {lf rt : Bool} (h : swapB cc lf rt a b = true) (hn : (lf && rt) = false) : swapB cc rt lf b a = false := by
  unfold swapB at h ⊢
  simp only [Bool.and_eq_true] at h
  rw [h.1, Bool.true_and]
  cases lf <;> cases rt <;> simp_all <;> omega
/-- The two come to the same, where no cut is one of a cut. -/
theorem condR_of {x : Int} : ∀ (f : Nat) {p : PS} (hz : NZ p) (hw : WfP p) (hr : ∀ t ∈ p.T, t.wf) {cc a b : Int} {r : RS}, condF f p cc x a b = some r → ∃ f', condR f' p cc x a b = some r
  | 0, _, _, _, _, _, _, _, _, h => by cases h
  | f + 1, p, hz, hw, hr, cc, a, b, r, h => by
    rw [condF_succ] at h
    split at h
    · rename_i hb
      exact ⟨1, by rw [condR_succ, if_pos hb]; exact h⟩
    rename_i hb
    split at h
    · rename_i hd
      exact ⟨1, by rw [condR_succ, if_neg hb, if_pos hd]; exact h⟩
    rename_i hd
    split at h
    rotate_left
    · rename_i he
      exact ⟨1, by rw [condR_succ, if_neg hb, if_neg hd, if_neg he]; exact h⟩
    rename_i he
    have hab : hasB p.T a = true ∧ hasB p.T b = true := by simpa using hb
    have hI := both_i64 hw hr (has_i64 hw hab.1) (has_i64 hw hab.2) x
    have hw2 := both_wf hw hr (has_i64 hw hab.1) (has_i64 hw hab.2) x
    have hz2 := both_nz (b := b) hz hw hr (has_i64 hw hab.1) x
    have hf := both_facts hw hr hab.1 hab.2 he
    have hxw := (holdsOk_yes (by simpa using hd)).1
    obtain ⟨p1, a1, b1, e1, hq⟩ : ∃ p1 a1 b1 e1, bothP p x a b = (p1, a1, b1, e1) := ⟨_, _, _, _, rfl⟩
    rw [hq] at h he hI hw2 hz2 hf
    dsimp only at h he hI hw2 hz2 hf
    have key : ∀ g, condRL (fun q o u v => condR g q o x u v) p1 cc x a1 b1 = some r → ∃ f', condR f' p cc x a b = some r := fun g hg => ⟨g + 1, by rw [condR_succ, if_neg hb, if_neg hd, hq]; dsimp only; rw [if_pos he]; exact hg⟩
    unfold condL at h
    dsimp only at h
    split at h
    · rename_i k1
      exact key 0 (by unfold condRL; dsimp only; rw [if_pos k1]; exact h)
    rename_i k1
    split at h
    · rename_i k2
      exact key 0 (by unfold condRL; dsimp only; rw [if_neg k1, if_pos k2]; exact h)
    rename_i k2
    split at h
    · rename_i k3
      obtain ⟨g, hg⟩ := condR_of f hz2 hw2.1 hw2.2 h
      exact key g (by unfold condRL; dsimp only; rw [if_neg k1, if_neg k2, if_pos k3]; exact hg)
    rename_i k3
    split at h
    rotate_left
    · rename_i k4
      exact key 0 (by unfold condRL; dsimp only; rw [if_neg k1, if_neg k2, if_neg k3, if_neg k4]; exact h)
    rename_i k4
    refine key 1 ?_
    unfold condRL
    dsimp only
    rw [if_neg k1, if_neg k2, if_neg k3, if_pos k4, condR_succ]
    have hid : operandP p1 x a1 = (p1, a1, 0) ∧ operandP p1 x b1 = (p1, b1, 0) := by
      unfold bothP at hq
      obtain ⟨q1, n1, f1, ha1⟩ : ∃ q1 n1 f1, operandP p x a = (q1, n1, f1) := ⟨_, _, _, rfl⟩
      rw [ha1] at hq
      dsimp only at hq
      split at hq
      rotate_left
      · rename_i hne
        injection hq with q1 q2
        injection q2 with q2 q3
        injection q3 with q3 q4
        exact absurd (q4.trans he) hne
      rename_i h1
      obtain ⟨q2, n2, f2, hb1⟩ : ∃ q2 n2 f2, operandP q1 x b = (q2, n2, f2) := ⟨_, _, _, rfl⟩
      rw [hb1] at hq
      dsimp only at hq
      injection hq with e1 e2
      injection e2 with e2 e3
      injection e3 with e3 e4
      subst e1 e2 e3 e4
      have x1 : Ext p q1 := by have := operand_ext p x a; rw [ha1] at this; exact this
      have x2 : Ext q1 q2 := by have := operand_ext q1 x b; rw [hb1] at this; exact this
      have ga := operand_again (p := p) (q := q2) hw2.1 (x := x) (a := a) (by rw [ha1]; exact h1) hab.1 (x1.trans x2) (by rw [ha1]; exact x2)
      have gb := operand_again (p := q1) (q := q2) hw2.1 (x := x) (a := b) (by rw [hb1]; exact he) (x1.has hab.2) x2 (by rw [hb1]; exact Ext.refl _)
      rw [ha1] at ga
      rw [hb1] at gb
      exact ⟨operand_idem hw2.1 hw2.2 hz2 hxw ((x1.trans x2).has hab.1) ga, operand_idem hw2.1 hw2.2 hz2 hxw ((x1.trans x2).has hab.2) gb⟩
    rw [if_neg (by rw [hf.1, hf.2.1]; simp), if_neg hd, both_of hid.2 hid.1]
    dsimp only
    rw [if_pos rfl]
    unfold condRL
    dsimp only
    rw [if_neg (by rw [Bool.and_comm]; exact k1), if_neg (by rw [beq_sym_ b1 a1]; exact k2), if_neg k3, if_neg (by rw [swap_once k4 (by simpa using k1)]; simp)]
    exact h
/-- The document's Cond at a fuel. -/
def RCondC (base g f : Nat) : Prop := ∀ (cc x a b : Int) (F : Nat → Prop) (p : PS) (r : RS) (hO : condR f p cc x a b = some r) (W : World) (h : RefAt W base F g p) (hbase : base ≤ W.heap.size),
  Calls Tryz.prog 24 #[.pointer (some ⟨g, 0, none⟩), .int .i8 cc, .int .i8 x, .int .i64 a, .int .i64 b] W (RetR base g F W r)
section
variable {base g f : Nat}
set_option maxHeartbeats 4000000 in
theorem rcond_bad (cc x a b : Int) (F : Nat → Prop) (p : PS) (w : World) (h : RefAt w base F g p) (hbad : (hasB p.T a && hasB p.T b) = false ∨ holdsOk cc x = false) :
    Calls Tryz.prog 24 #[.pointer (some ⟨g, 0, none⟩), .int .i8 cc, .int .i8 x, .int .i64 a, .int .i64 b] w (RetR base g F w (p, 0, 2)) := by
  have HP := hide (RG.refl h)
  have HB := hide hbad
  clear h hbad
  go_enter Tryz.func24, Tryz.ntmps24
  cases hd : holdsOk cc x
  · have HD := hide hd
    clear hd
    go_wp2_with fail
    refine (rholds_no 0 0 _ HD.out).mono ?_
    rintro e w1 ⟨rfl, rfl⟩
    go_wp2
    go_ret2
    exact RetR.same HP.out
  · have HD := hide hd
    have hh : (hasB p.T a && hasB p.T b) = false := HB.out.resolve_right (by rw [hd]; simp)
    have HH := hide hh
    clear hd hh
    go_wp2_with fail
    refine (rholds_yes 0 0 zero_u64 zero_u64 _ HD.out).mono ?_
    rintro e w1 ⟨rfl, rfl⟩
    generalize holdsU cc x 0 0 = v00
    go_wp2_with fail
    have hb0 : Below w.heap.size w (w.alloc (.cells #[.int .i64 a, .int .i64 b] 3)) := bl_alloc' w _
    refine (rthere_any [a, b] _ 2 2 _ (HP.out.pool.below hb0) (reads_list w 3 [.int .i64 a, .int .i64 b] 2 rfl) rfl (Nat.le_refl _) (by omega)).mono ?_
    rintro e w2 ⟨rfl, hb⟩
    have HP1 := hide ((HP.out.step hb0).step hb)
    rw [show [a, b].all (hasB p.T) = false by simpa using HH.out]
    clear hb hb0
    go_wp2
    go_ret2
    exact RetR.same HP1.out
set_option maxHeartbeats 16000000 in
theorem rcond_good (hIH : RCondC base g f) (cc x a0 b0 : Int) (F : Nat → Prop) (p : PS) (r : RS) (w : World) (h : RefAt w base F g p) (hbase : base ≤ w.heap.size) (hD : holdsOk cc x = true) (hH : (hasB p.T a0 && hasB p.T b0) = true)
    (hO : (if (bothP p x a0 b0).2.2.2 = 0 then condRL (fun q o u v => condR f q o x u v) (bothP p x a0 b0).1 cc x (bothP p x a0 b0).2.1 (bothP p x a0 b0).2.2.1 else some ((bothP p x a0 b0).1, 0, (bothP p x a0 b0).2.2.2)) = some r) :
    Calls Tryz.prog 24 #[.pointer (some ⟨g, 0, none⟩), .int .i8 cc, .int .i8 x, .int .i64 a0, .int .i64 b0] w (RetR base g F w r) := by
  have hhab : hasB p.T a0 = true ∧ hasB p.T b0 = true := by simpa using hH
  obtain ⟨p1, a, e1, hop1⟩ : ∃ p1 a e1, operandP p x a0 = (p1, a, e1) := ⟨_, _, _, rfl⟩
  obtain ⟨p2, b, e2, hop2⟩ : ∃ p2 b e2, operandP p1 x b0 = (p2, b, e2) := ⟨_, _, _, rfl⟩
  have hbp : bothP p x a0 b0 = (if e1 = 0 then (p2, a, b, e2) else (p1, a, 0, e1)) := by
    unfold bothP
    rw [hop1]
    dsimp only
    rw [hop2]
  have hO' : (if e1 = 0 then (if e2 = 0 then condRL (fun q o u v => condR f q o x u v) p2 cc x a b else some (p2, 0, e2)) else some (p1, 0, e1)) = some r := by
    by_cases h1 : e1 = 0
    · rw [if_pos h1] at hbp ⊢
      rw [hbp] at hO
      exact hO
    · rw [if_neg h1] at hbp ⊢
      rw [hbp] at hO
      dsimp only at hO
      rw [if_neg h1] at hO
      exact hO
  clear hbp
  have HFA := hide (fun (k1 : e1 = 0) (k2 : e2 = 0) => by
    have e : bothP p x a0 b0 = (p2, a, b, e2) := by
      unfold bothP
      rw [hop1]
      dsimp only
      rw [hop2, if_pos k1]
    have hbf := both_facts h.wf h.rng hhab.1 hhab.2 (x := x) (by rw [e]; exact k2)
    rw [e] at hbf
    exact ⟨hbf.1, hbf.2.1⟩ : ∀ (k1 : e1 = 0) (k2 : e2 = 0), hasB p2.T a = true ∧ hasB p2.T b = true)
  have HOP1 := hide hop1
  have HOP2 := hide hop2
  have HO1 := hide hO'
  have HIH := hide hIH
  have HDO := hide hD
  have HHA := hide hH
  have HXW := hide (holdsOk_yes hD).1
  have HRO_ := hide (holdsOk_yes hD).2
  have HP := hide (RG.refl h)
  clear hop1 hop2 hO hO' hIH hD hH h hhab
  go_enter Tryz.func24, Tryz.ntmps24
  go_wp2_with fail
  refine (rholds_yes 0 0 zero_u64 zero_u64 _ HDO.out).mono ?_
  rintro e w1 ⟨rfl, rfl⟩
  generalize holdsU cc x 0 0 = v00
  go_wp2_with fail
  have hb0 : Below w.heap.size w (w.alloc (.cells #[.int .i64 a0, .int .i64 b0] 3)) := bl_alloc' w _
  refine (rthere_any [a0, b0] _ 2 2 _ (HP.out.pool.below hb0) (reads_list w 3 [.int .i64 a0, .int .i64 b0] 2 rfl) rfl (Nat.le_refl _) (by omega)).mono ?_
  rintro e w2 ⟨rfl, hb⟩
  have HP1 := hide ((HP.out.step hb0).step hb)
  rw [show [a0, b0].all (hasB p.T) = true by simpa using HHA.out]
  clear hb hb0 HP
  have hbs1 : base ≤ w2.heap.size := Nat.le_trans hbase HP1.out.size
  go_wp2_with fail
  refine (operand_r x a0 HXW.out _ HP1.out.pool hbs1).mono ?_
  rintro e w3 ⟨rfl, F1, hp⟩
  rw [HOP1.out] at hp ⊢
  have HP2 := hide (HP1.out.trans hp)
  clear hp HP1
  dsimp only at HP2 ⊢
  cases h1 : (e1 == 0)
  · have hr := HO1.out
    rw [if_neg (by simpa using h1)] at hr
    injection hr with hr
    subst hr
    go_wp2
    go_ret2
    exact RetR.same HP2.out
  have hr := HO1.out
  rw [if_pos (by simpa using h1)] at hr
  have HO2 := hide hr
  have HE1 := hide (by simpa using h1 : e1 = 0)
  clear hr HO1
  have hbs2 : base ≤ w3.heap.size := Nat.le_trans hbase HP2.out.size
  go_wp2_with fail
  refine (operand_r x b0 HXW.out _ HP2.out.pool hbs2).mono ?_
  rintro e w4 ⟨rfl, F2, hp⟩
  rw [HOP2.out] at hp ⊢
  have HP3 := hide (HP2.out.trans hp)
  clear hp HP2
  dsimp only at HP3 ⊢
  cases h2 : (e2 == 0)
  · have hr := HO2.out
    rw [if_neg (by simpa using h2)] at hr
    injection hr with hr
    subst hr
    go_wp2
    go_ret2
    exact RetR.same HP3.out
  have hr := HO2.out
  rw [if_pos (by simpa using h2)] at hr
  have HO3 := hide hr
  have HF := hide (HFA.out HE1.out (by simpa using h2))
  clear hr HO2 HFA
  obtain ⟨s, hs⟩ : ∃ s, atP p2.T a = s := ⟨_, rfl⟩
  obtain ⟨y, hy⟩ : ∃ y, atP p2.T b = y := ⟨_, rfl⟩
  have HS := hide hs
  have HY := hide hy
  clear hs hy
  go_wp2_with fail
  refine (get_r a _ HP3.out.pool).mono ?_
  rintro e w5 ⟨rfl, hb⟩
  have HP4 := hide (HP3.out.step hb)
  clear hb HP3
  rw [HS.out]
  go_wp2_with fail
  refine (get_r b _ HP4.out.pool).mono ?_
  rintro e w6 ⟨rfl, hb⟩
  have HP5 := hide (HP4.out.step hb)
  clear hb HP4
  rw [HY.out]
  have NF := hide (fun k (hk : w6.heap.size ≤ k) q => by have := (HP5.out.pool.fb k q).2; omega : ∀ k, w6.heap.size ≤ k → ¬ F2 k)
  have hal1 := bl_alloc' w6 (.cells zeroT.cells.toArray 67)
  have hal2 := bl_alloc' (w6.alloc (.cells zeroT.cells.toArray 67)) (.cells zeroT.cells.toArray 67)
  have HA1 := hide ((Blk.new w6 67 zeroT.cells.toArray).below hal2 (by simp))
  have hA2 := Blk.new (w6.alloc (.cells zeroT.cells.toArray 67)) 67 zeroT.cells.toArray
  simp only [World.size_alloc] at hA2
  have HA2 := hide hA2
  have HL := hide (hal1.trans (hal2.mono hal1.size))
  clear hal1 hal2 hA2
  have hov : ∀ t : TD, overC zeroT.cells 0 t.cells = t.cells := fun t => by unfold overC; simp [TD.cells]
  have HOV := hide hov
  clear hov
  obtain ⟨bs, hbs⟩ : ∃ b, w6.heap.size = b := ⟨_, rfl⟩
  have HBS := hide hbs
  rw [hbs] at HA1 HA2
  have tok1 := True.intro
  have tok2 := True.intro
  go_upto_region 11 with (first
    | (clear tok1
       refine wpList_store_at rfl 67 (.tmp 15) (.tmp 59) rfl bs 0 67 zeroT.cells s.cells (termV s) HA1.out (by rw [← HBS.out]; rfl) (by rfl) rfl sizT (by simp [TD.cells]) (TD.one _) ?_
       intro w7 G7 L7 Z7
       have HB1 := hide (by have := G7; rw [HOV.out] at this; exact this : Blk w7 bs 67 s.cells.toArray)
       have HB2 := hide (HA2.out.grown L7 (fun e => by injection e with e; omega))
       have HL2 := hide (HL.out.grown L7 HL.out.size (fun q e => by injection e with e; have := HBS.out; omega))
       clear G7 L7 Z7)
    | (clear tok2
       refine wpList_store_at rfl 67 (.tmp 16) (.tmp 62) rfl (bs + 1) 0 67 zeroT.cells y.cells (termV y) HB2.out (by rw [← HBS.out]; rfl) (by rfl) rfl sizT (by simp [TD.cells]) (TD.one _) ?_
       intro w8 G8 L8 Z8
       have HC1 := hide (HB1.out.grown L8 (fun e => by injection e with e; omega))
       have HC2 := hide (by have := G8; rw [HOV.out] at this; exact this : Blk w8 (bs + 1) 67 y.cells.toArray)
       have HL3 := hide (HL2.out.grown L8 HL2.out.size (fun q e => by injection e with e; have := HBS.out; omega))
       clear G8 L8 Z8)
    | fail)
  have HRO : Hid (RO base g F w F2 p2 s y bs (bs + 1) w8) := hide ⟨HP5.out.step HL3.out, HC1.out, HC2.out, NF.out _ (by rw [HBS.out]; exact Nat.le_refl _), NF.out _ (by rw [HBS.out]; omega)⟩
  clear HA1 HA2 HL HOV HB1 HB2 HL2 HC1 HC2 HL3 NF HP5
  obtain ⟨by_, hby⟩ : ∃ b, bs + 1 = b := ⟨_, rfl⟩
  rw [hby] at HRO
  try simp only [HBS.out, hby]
  have hr := HO3.out
  unfold condRL at hr
  rw [HS.out, HY.out] at hr
  dsimp only at hr
  have HO4 := hide hr
  clear hr
  obtain ⟨lf, hlf⟩ : ∃ v, (s.kind == 0) = v := ⟨_, rfl⟩
  obtain ⟨rt, hrt⟩ : ∃ v, (y.kind == 0) = v := ⟨_, rfl⟩
  have HLF := hide hlf
  have HRT := hide hrt
  rw [hlf, hrt] at HO4
  have s0 := HRO.out.one.cell 0
  have y0 := HRO.out.two.cell 0
  simp [TD.cells] at s0 y0
  try simp only [Act.put, List.setIfInBounds_toArray, List.set_cons_zero, List.set_cons_succ]
  go_cut [70] from 63 to 70 (fun v wc => v = .bool (lf && rt) ∧ wc = w8)
  case first =>
    as_aux_lemma =>
      cases lf
      · go_wp2
        go_meet
        case rel => exact ⟨rfl, rfl⟩
      · cases rt
        all_goals
          go_wp2
          go_meet
          case rel => exact ⟨rfl, rfl⟩
  case rest =>
    obtain ⟨rfl, rfl⟩ := hcut
    clear hlf hrt
    obtain ⟨bt, hbt⟩ : ∃ v, (lf && rt) = v := ⟨_, rfl⟩
    have HBT := hide hbt
    rw [hbt]
    rw [hbt] at HO4
    clear hbt s0 y0
    cases bt
    rotate_left
    · have hr := HO4.out
      rw [if_pos rfl] at hr
      injection hr with hr
      have HE := hide hr
      have HSN := hide (show U64 s.n from HS.out ▸ (atP_wf HRO.out.pg.pool.rng a).2.2.2.1)
      have HYN := hide (show U64 y.n from HY.out ▸ (atP_wf HRO.out.pg.pool.rng b).2.2.2.1)
      clear hr
      have s3 := HRO.out.one.cell 3
      have y3 := HRO.out.two.cell 3
      simp [TD.cells] at s3 y3
      go_wp2_with fail
      refine (rholds_yes s.n y.n HSN.out HYN.out _ HDO.out).mono ?_
      rintro e w7 ⟨rfl, rfl⟩
      obtain ⟨hv, hhv⟩ : ∃ h, holdsU cc x s.n y.n = h := ⟨_, rfl⟩
      rw [hhv] at HE ⊢
      clear hhv
      go_wp2_with fail
      refine (flag_r hv _).mono ?_
      rintro e w7' ⟨rfl, rfl⟩
      rw [show (if hv = true then (1 : Int) else 0) = flagV hv from rfl]
      have HFV := hide (flagV_u64 hv)
      generalize flagV hv = fv at HE HFV ⊢
      go_wp2_with fail
      refine (const_r fv HFV.out _ HRO.out.pg.pool (Nat.le_trans hbase HRO.out.pg.size)).mono ?_
      rintro e w9 ⟨rfl, F3, hp⟩
      have HPE := hide (HRO.out.pg.trans hp)
      clear hp
      go_wp2
      go_ret2
      rw [← HE.out]
      exact ⟨rfl, F3, HPE.out⟩
    have hr := HO4.out
    rw [if_neg (by simp)] at hr
    have HO5 := hide hr
    clear hr HO4
    go_upto_region 14 with fail
    go_cut [93] from 87 to 93 (fun v wd => v = .bool (a == b && cc != 10) ∧ wd = wc)
    case first =>
      as_aux_lemma =>
        cases hab : (a == b)
        · go_wp2
          go_meet
          case rel => exact ⟨by rw [hab]; rfl, rfl⟩
        · cases hcc : (cc != 10)
          all_goals
            go_wp2
            go_meet
            case rel => exact ⟨by rw [hab, hcc]; rfl, rfl⟩
    case rest =>
      obtain ⟨rfl, rfl⟩ := hcut
      obtain ⟨eb, heb⟩ : ∃ v, (a == b && cc != 10) = v := ⟨_, rfl⟩
      rw [heb]
      rw [heb] at HO5
      clear heb
      cases eb
      rotate_left
      · have hr := HO5.out
        rw [if_pos rfl] at hr
        injection hr with hr
        have HE := hide hr
        clear hr
        go_wp2_with fail
        refine (rholds_yes 0 0 zero_u64 zero_u64 _ HDO.out).mono ?_
        rintro e w7 ⟨rfl, rfl⟩
        obtain ⟨hv, hhv⟩ : ∃ h, holdsU cc x 0 0 = h := ⟨_, rfl⟩
        rw [hhv] at HE ⊢
        clear hhv
        go_wp2_with fail
        refine (flag_r hv _).mono ?_
        rintro e w7' ⟨rfl, rfl⟩
        rw [show (if hv = true then (1 : Int) else 0) = flagV hv from rfl]
        have HFV := hide (flagV_u64 hv)
        generalize flagV hv = fv at HE HFV ⊢
        go_wp2_with fail
        refine (const_r fv HFV.out _ HRO.out.pg.pool (Nat.le_trans hbase HRO.out.pg.size)).mono ?_
        rintro e w9 ⟨rfl, F3, hp⟩
        have HPE := hide (HRO.out.pg.trans hp)
        clear hp
        go_wp2
        go_ret2
        rw [← HE.out]
        exact ⟨rfl, F3, HPE.out⟩
      have hr := HO5.out
      rw [if_neg (by simp)] at hr
      have HO6 := hide hr
      clear hr HO5
      cases h2 : (cc == 2)
      rotate_left
      · obtain rfl : cc = 2 := by simpa using h2
        have HR1 := hide (show condR f p2 4 x b a = some r from HO6.out)
        go_wp2_with fail
        refine (HIH.out 4 x b a _ p2 r HR1.out _ HRO.out.pg.pool (Nat.le_trans hbase HRO.out.pg.size)).mono ?_
        rintro e w7 ⟨rfl, F3, hp⟩
        have HPE := hide (HRO.out.pg.trans hp)
        clear hp
        go_wp2
        go_ret2
        exact ⟨rfl, F3, HPE.out⟩
      cases h3 : (cc == 3)
      rotate_left
      · obtain rfl : cc = 3 := by simpa using h3
        have HR1 := hide (show condR f p2 5 x b a = some r from HO6.out)
        go_wp2_with fail
        refine (HIH.out 5 x b a _ p2 r HR1.out _ HRO.out.pg.pool (Nat.le_trans hbase HRO.out.pg.size)).mono ?_
        rintro e w7 ⟨rfl, F3, hp⟩
        have HPE := hide (HRO.out.pg.trans hp)
        clear hp
        go_wp2
        go_ret2
        exact ⟨rfl, F3, HPE.out⟩
      cases h6 : (cc == 6)
      rotate_left
      · obtain rfl : cc = 6 := by simpa using h6
        have HR1 := hide (show condR f p2 8 x b a = some r from HO6.out)
        go_wp2_with fail
        refine (HIH.out 8 x b a _ p2 r HR1.out _ HRO.out.pg.pool (Nat.le_trans hbase HRO.out.pg.size)).mono ?_
        rintro e w7 ⟨rfl, F3, hp⟩
        have HPE := hide (HRO.out.pg.trans hp)
        clear hp
        go_wp2
        go_ret2
        exact ⟨rfl, F3, HPE.out⟩
      cases h7 : (cc == 7)
      rotate_left
      · obtain rfl : cc = 7 := by simpa using h7
        have HR1 := hide (show condR f p2 9 x b a = some r from HO6.out)
        go_wp2_with fail
        refine (HIH.out 9 x b a _ p2 r HR1.out _ HRO.out.pg.pool (Nat.le_trans hbase HRO.out.pg.size)).mono ?_
        rintro e w7 ⟨rfl, F3, hp⟩
        have HPE := hide (HRO.out.pg.trans hp)
        clear hp
        go_wp2
        go_ret2
        exact ⟨rfl, F3, HPE.out⟩
      have hr := HO6.out
      rw [if_neg (by unfold turnedB; rw [h2, h3, h6, h7]; simp)] at hr
      have HO7 := hide hr
      clear hr HO6
      have s0 := HRO.out.one.cell 0
      have y0 := HRO.out.two.cell 0
      simp [TD.cells] at s0 y0
      go_upto_region 26 with fail
      go_cut [167] from 143 to 167 (fun v wd => v = .bool (swapB cc lf rt a b) ∧ wd = wc)
      case first =>
        as_aux_lemma =>
          have kS := HLF.out
          have kY := HRT.out
          cases c0 : (cc == 0)
          rotate_left
          · cases lf
            · cases rt
              · have kY' : (y.kind != 0) = true := by unfold bne; rw [kY]; rfl
                go_wp2
                go_meet
                case rel => exact ⟨by unfold swapB; simp [c0], rfl⟩
              · have kY' : (y.kind != 0) = false := by unfold bne; rw [kY]; rfl
                go_wp2
                go_meet
                case rel => exact ⟨by unfold swapB; simp [c0], rfl⟩
            · go_wp2
              go_meet
              case rel => exact ⟨by unfold swapB; simp [c0], rfl⟩
          cases c1 : (cc == 1)
          rotate_left
          · cases lf
            · cases rt
              · have kY' : (y.kind != 0) = true := by unfold bne; rw [kY]; rfl
                go_wp2
                go_meet
                case rel => exact ⟨by unfold swapB; simp [c0, c1], rfl⟩
              · have kY' : (y.kind != 0) = false := by unfold bne; rw [kY]; rfl
                go_wp2
                go_meet
                case rel => exact ⟨by unfold swapB; simp [c0, c1], rfl⟩
            · go_wp2
              go_meet
              case rel => exact ⟨by unfold swapB; simp [c0, c1], rfl⟩
          cases c10 : (cc == 10)
          rotate_left
          · cases lf
            · cases rt
              · have kY' : (y.kind != 0) = true := by unfold bne; rw [kY]; rfl
                go_wp2
                go_meet
                case rel => exact ⟨by unfold swapB; simp [c0, c1, c10], rfl⟩
              · have kY' : (y.kind != 0) = false := by unfold bne; rw [kY]; rfl
                go_wp2
                go_meet
                case rel => exact ⟨by unfold swapB; simp [c0, c1, c10], rfl⟩
            · go_wp2
              go_meet
              case rel => exact ⟨by unfold swapB; simp [c0, c1, c10], rfl⟩
          · go_wp2
            go_meet
            case rel => exact ⟨by unfold swapB; simp [c0, c1, c10], rfl⟩
      case rest =>
        obtain ⟨rfl, rfl⟩ := hcut
        obtain ⟨sw, hsw⟩ : ∃ v, swapB cc lf rt a b = v := ⟨_, rfl⟩
        rw [hsw]
        rw [hsw] at HO7
        clear hsw
        cases sw
        rotate_left
        · have hr := HO7.out
          rw [if_pos rfl] at hr
          have HR1 := hide hr
          clear hr
          go_wp2_with fail
          refine (HIH.out cc x b a _ p2 r HR1.out _ HRO.out.pg.pool (Nat.le_trans hbase HRO.out.pg.size)).mono ?_
          rintro e w7 ⟨rfl, F3, hp⟩
          have HPE := hide (HRO.out.pg.trans hp)
          clear hp
          go_wp2
          go_ret2
          exact ⟨rfl, F3, HPE.out⟩
        have hr := HO7.out
        rw [if_neg (by simp)] at hr
        injection hr with hr
        have HE := hide hr
        have HTW := hide (condT_wf (cc := cc) (x := x) (by have := HRO_.out; unfold I8; omega) (by have := HXW.out; unfold I8; omega) (has_i64 HRO.out.pg.pool.wf HF.out.1) (has_i64 HRO.out.pg.pool.wf HF.out.2))
        have qbo := fun w => build_cond cc x a b w
        clear hr HO7 HO3
        go_wp2_with fail
        refine (rput_any _ HTW.out _ HRO.out.pg.pool (Nat.le_trans hbase HRO.out.pg.size)).mono ?_
        rintro e w7 ⟨rfl, F3, hp⟩
        have HPE := hide (HRO.out.pg.trans hp)
        clear hp
        go_wp2
        go_ret2
        rw [← HE.out]
        exact ⟨rfl, F3, HPE.out⟩
theorem rcond_all : ∀ f, RCondC base g f := by
  intro f
  induction f with
  | zero => intro cc x a b F p r hO; cases hO
  | succ f ih =>
    intro cc x a b F p r hO W h hbase
    rw [condR_succ] at hO
    split at hO
    · rename_i hb
      injection hO with hO
      rw [← hO]
      exact rcond_bad cc x a b F p W h (.inl hb)
    · rename_i hb
      split at hO
      · rename_i hd
        injection hO with hO
        rw [← hO]
        exact rcond_bad cc x a b F p W h (.inr hd)
      · rename_i hd
        exact rcond_good ih cc x a b F p r W h hbase (by simpa using hd) (by simpa using hb) hO
/-- The document's Cond answers as the program's. -/
theorem cond_r (f : Nat) (cc x a b : Int) (F : Nat → Prop) (p : PS) (r : RS) (hO : condF f p cc x a b = some r) (hz : NZ p) (W : World) (h : RefAt W base F g p) (hbase : base ≤ W.heap.size) :
    Calls Tryz.prog 24 #[.pointer (some ⟨g, 0, none⟩), .int .i8 cc, .int .i8 x, .int .i64 a, .int .i64 b] W (RetR base g F W r) := by
  obtain ⟨f', hf⟩ := condR_of f hz h.wf h.rng hO
  exact rcond_all f' cc x a b F p r hf W h hbase
end
end Go.Proofs.YtfjflefgclfbfaaGreat
