/-
  The walk of BlocksBehind: it answers true. Conditions: those written in each statement.
-/
import Derived.Test.YtbdofidapddgaaaLd
namespace Go.Proofs.Ytbdofidapddgaaa
open Go.RowKit
set_option linter.unusedVariables false
set_option linter.unusedSimpArgs false
def exI : ID := ⟨6, 0, 0, 0, false, 0, 0, 0, 0⟩
theorem at_app {l : List ID} {j : Nat} {x : ID} (h : (l ++ [exI])[j]? = some x) : (j < l.length ∧ l[j]? = some x) ∨ (j = l.length ∧ x = exI) := app_at h
theorem app_get {l : List ID} {j : Nat} {x : ID} (h : l[j]? = some x) : (l ++ [exI])[j]? = some x := by
  rw [List.getElem?_append_left (List.getElem?_eq_some_iff.1 h).1]
  exact h
theorem mark_ex {i : Nat} {n : Nat} (h : i ≤ n) : mark n exI i = false := by
  unfold mark exI jmpB tgtB
  simp
  omega
theorem beg_behind {l : List ID} {i : Nat} (hi : i ≤ l.length) : begB (l ++ [exI]) i = begB l i := by
  rw [Bool.eq_iff_iff]
  constructor
  · intro h
    rcases begB_inv h with h | ⟨j, x, hx, hm⟩
    · subst h; exact begB_zero l
    · rcases at_app hx with ⟨_, q⟩ | ⟨q1, rfl⟩
      · exact begB_of q hm
      · rw [q1, mark_ex hi] at hm
        cases hm
  · intro h
    rcases begB_inv h with h | ⟨j, x, hx, hm⟩
    · subst h; exact begB_zero _
    · exact begB_of (app_get hx) hm
theorem blkT_congr {B C : Nat → Bool} : ∀ k, (∀ i, i < k → B i = C i) → blkT B k = blkT C k
  | 0, _ => rfl
  | k + 1, h => by
    rw [blkT_succ, blkT_succ]
    unfold preT
    rw [blkT_congr k (fun i hi => h i (by omega)), h k (by omega)]
theorem of_behind {l : List ID} {i : Nat} (hi : i < l.length) : ofT (begB (l ++ [exI])) i = ofT (begB l) i := by
  unfold ofT
  rw [blkT_congr (i + 1) (fun j hj => beg_behind (by omega))]
theorem last_jmp {l : List ID} {x : ID} (hx : l[l.length - 1]? = some x) (h1 : 0 < l.length) (hk : x.kind = 4 ∨ x.kind = 6) : begB l l.length = true := begB_of hx (by
  unfold mark jmpB
  have : ((l.length : Int) == ((l.length - 1 : Nat) : Int) + 1) = true := by simp; omega
  rw [this]
  rcases hk with h | h <;> rw [h] <;> rfl)
theorem blk_behind {l : List ID} (h1 : 0 < l.length) (hok : ∀ (j : Nat) (x : ID), l[j]? = some x → okAt l.length j x = true) (hk : ∀ x, l[l.length - 1]? = some x → x.kind = 4 ∨ x.kind = 6) :
    blkL (l ++ [exI]) = blkL l ++ [⟨(l.length : Int), (l.length : Int) + 1, []⟩] := by
  have hx : l[l.length - 1]? = some (l[l.length - 1]'(by omega)) := List.getElem?_eq_getElem _
  have hb := last_jmp hx h1 (hk _ hx)
  have hT : blkT (begB (l ++ [exI])) (l ++ [exI]).length = blkT (begB l) l.length ++ [((l.length : Int), (l.length : Int) + 1)] := by
    rw [List.length_append, List.length_cons, List.length_nil, Nat.zero_add, blkT_yes (by rw [beg_behind (Nat.le_refl _)]; exact hb), blkT_congr l.length (fun i hi => beg_behind (by omega))]
  unfold blkL
  rw [hT, List.mapIdx_append]
  congr 1
  · refine List.ext_getElem? fun b => ?_
    rw [List.getElem?_mapIdx, List.getElem?_mapIdx]
    cases hp : (blkT (begB l) l.length)[b]? with
    | none => rfl
    | some p =>
      have I := (blk_inv (begB_zero l) l.length h1).lt b p hp
      show some (bkAt (l ++ [exI]) b p) = some (bkAt l b p)
      unfold bkAt
      have hj : (p.2 - 1).toNat < l.length := by omega
      have hy : l[(p.2 - 1).toNat]? = some l[(p.2 - 1).toNat] := List.getElem?_eq_getElem hj
      rw [app_get hy, hy]
      dsimp only
      congr 2
      unfold nextOf
      cases ht : tgtB ((p.2 - 1).toNat : Int) l[(p.2 - 1).toNat] with
      | false => rfl
      | true =>
        have := tgt_in (hok _ _ hy) ht
        rw [of_behind (by omega)]
  · simp only [List.mapIdx_cons, List.mapIdx_nil]
    unfold bkAt
    dsimp only
    rw [show ((l.length : Int) + 1 - 1).toNat = l.length by omega]
    have : (l ++ [exI])[l.length]? = some exI := by simp
    rw [this]
    dsimp only
    unfold nextOf tgtB exI
    simp
theorem chk_behind {c : Int} {l : List ID} (h : (chkP c l).2 = 0) (hl : l.length < 64) : chkP c (l ++ [exI]) = (0, 0) := by
  obtain ⟨h0, h1, h2, h3, h4, h5, _⟩ := chk_ok h
  have hlen : (l ++ [exI]).length = l.length + 1 := by simp
  rw [chk_end (inB_iff.2 ⟨h0, h1⟩) (inB_iff.2 (by rw [hlen]; omega)) (fun i y hy => ?_), if_neg]
  · unfold lastK
    rw [hlen, Nat.add_sub_cancel]
    simp [exI]
  · rw [hlen]
    rcases at_app hy with ⟨_, q⟩ | ⟨q1, rfl⟩
    · have := h4 i y q
      unfold okAt at this ⊢
      rw [Bool.and_eq_true] at this ⊢
      refine ⟨this.1, ?_⟩
      have h6 := this.2
      cases ht : tgtB i y with
      | false => rfl
      | true =>
        rw [ht] at h6
        simp only [Bool.true_and, Bool.not_not] at h6 ⊢
        have := inB_iff.1 h6
        exact inB_iff.2 (by omega)
    · unfold okAt
      have : tgtB (i : Int) exI = false := by unfold tgtB exI; simp
      rw [this]
      have hm : mayB exI = true := by decide +kernel
      rw [hm]
      rfl
theorem lastK_at {l : List ID} {x : ID} (hx : l[l.length - 1]? = some x) : lastK l = x.kind := by
  unfold lastK
  rw [hx]
  rfl
theorem exI_wf : exI.wf := by unfold exI ID.wf I8 I64; dsimp only; omega
theorem build_ex (w : World) : (Instr.build 33 #[(0, .int .i8 6)]).run Try.prog w = .ok (.agg #[.int .i8 6, .int .i8 0, .int .i8 0, .int .i8 0, .bool false, .int .i8 0, .int .i8 0, .int .i64 0, .int .i64 0]) w := run_build w 33 _ _ (by kernel_rfl)
theorem flatI_one (l : List ID) : ∀ u ∈ l.flatMap ID.cells, u.oneCell' = true := by
  intro u hu
  obtain ⟨x, _, h⟩ := List.mem_flatMap.1 hu
  exact x.one u h
theorem flatI_len (l : List ID) : (l.flatMap ID.cells).length = l.length * 9 := by
  induction l with
  | nil => rfl
  | cons x t ih => rw [List.flatMap_cons, List.length_append, ih, ID.cells_len, List.length_cons]; omega
set_option maxRecDepth 100000 in
set_option maxHeartbeats 8000000 in
theorem behind_walk (c : Int) (A : Option Addr) (n cap : Nat) (l : List ID) (w : World) (hh : InsAt w w.heap.size A n l) (hc : n ≤ cap) (hm : n < 9223372036854775808) :
    Calls Try.prog 6 #[.agg #[.int .i64 c, .slice A n cap]] w fun e w' => e = .returned (.bool true) ∧ Below w.heap.size w w' := by
  have HL := hide hh.1
  have HE := hide (EnF.new (c := c) (cap := cap) hh)
  clear hh
  by_cases h64 : 64 ≤ n
  · have hd : decide ((64 : Int) ≤ (n : Int)) = true := by simp; omega
    go_enter Try.func6, Try.ntmps6
    go_wp2_with fail
    refine (wakes_any _).mono ?_
    rintro e w12 ⟨rfl, hb⟩
    replace HE := hide (HE.out.step hb)
    clear hb
    go_wp2
    go_ret
    exact ⟨rfl, HE.out.below⟩
  · have hd : decide ((64 : Int) ≤ (n : Int)) = false := by simp; omega
    have hn64 : n < 64 := by omega
    have c0 := HE.out.box0
    have c1 := HE.out.box1
    clear h64
    go_enter Try.func6, Try.ntmps6
    go_wp2_with fail
    refine (run_any c A n cap l _ HE.out.at_ hc hm).mono ?_
    rintro e w2 ⟨A2, cap2, rfl, hc2, hb2, hb⟩
    replace HE := hide (HE.out.step hb)
    have HB2 := hide hb2
    clear hb hb2 c0 c1
    have c0 := HE.out.box0
    have c1 := HE.out.box1
    obtain ⟨er, her⟩ : ∃ v, (chkP c l).2 = v := ⟨_, rfl⟩
    rw [her]
    have HER := hide her
    by_cases he : er = 0
    · subst he
      obtain ⟨_, _, hn1, _, hok, hlk, _⟩ := chk_ok her
      have hR : blkR c l = blkL l := by unfold blkR; rw [her]; rfl
      have hch := chk_behind her (by rw [HL.out]; exact hn64)
      have hR2 : blkR c (l ++ [exI]) = blkL l ++ [⟨(n : Int), (n : Int) + 1, []⟩] := by
        unfold blkR
        rw [hch, if_pos rfl, blk_behind hn1 hok (fun x hx => by rw [lastK_at hx] at hlk; exact hlk), HL.out]
      have HR2 := hide hR2
      have HCH := hide (show (chkP c (l ++ [exI])).2 = 0 by rw [hch])
      have hbl := blkR_len c l
      rw [HL.out] at hbl hn1
      rw [hR] at HB2 hc2 hbl ⊢
      obtain ⟨R, hRR⟩ : ∃ v, blkL l = v := ⟨_, rfl⟩
      rw [hRR] at HB2 hc2 hbl HR2 ⊢
      obtain ⟨m, hmR⟩ : ∃ v, R.length = v := ⟨_, rfl⟩
      rw [hmR] at HB2 hc2 hbl ⊢
      have HMR := hide hmR
      obtain ⟨iI, hiI, hzI, hsI, hbI⟩ := info_parts infI
      have II := hide (And.intro hiI (And.intro hzI (And.intro hsI hbI)))
      clear hmR her hR hRR hch hR2 hok hlk hiI hzI hsI hbI
      have hszw := HE.out.below.size
      have hlt := HE.out.lt
      go_upto_region 8 with fail
      obtain ⟨g5, hg5⟩ : ∃ v, w2.heap.size = v := ⟨_, rfl⟩
      have X5 := Blk.new w2 24 #[.int .i64 c, .slice none 0 0]
      have L5 : Below w2.heap.size w2 (w2.alloc (.cells #[.int .i64 c, .slice none 0 0] 24)) := (Below.refl _ _).alloc (Nat.le_refl _) _
      generalize w2.alloc (.cells #[.int .i64 c, .slice none 0 0] 24) = w3 at X5 L5 ⊢
      have HE3 := hide (HE.out.step L5)
      have hb3 := HB2.out.below L5
      rw [hg5] at X5 hb3 hlt ⊢
      have HB3 := hide hb3
      have HX5 := hide X5
      have c13 := HE3.out.box1
      have c50 : w3.cell? ⟨g5, 1, none⟩ = some (.slice none 0 0) := X5.cell 1
      have hg3 := X5.lt
      clear X5 L5 hb3 c0 c1 HE HB2 hg5
      go_upto_region 9 with (first
        | (refine wpList_append_any _ rfl (.tmp 26) (.tmp 28) 22 rfl (g5 + 1) 33 iI _ 9 24 Try.underlying22 II.out.1 II.out.2.1 II.out.2.2.1 II.out.2.2.2 rfl (by omega) (.slice none 0 0) 0 [] (by rfl) ⟨rfl, .inl ⟨rfl, rfl⟩⟩ w.heap.size A n cap _ (by rfl) HE3.out.ins.2.2 (flatI_one l) (by unfold maxLen; omega) (by omega) (by omega) ?_
           intro v4 w4 O4 G4 Q4
           obtain ⟨g6, cap6, rfl, hc6, hg6, _⟩ := (RowL.of_own O4).form (by omega)
           have hX := HX5.out.grown G4 (by simp [Value.ownBlock])
           have c54 : w4.cell? ⟨g5, 1, none⟩ = some (.slice none 0 0) := hX.cell 1
           have f54 := hX.frozen 1
           have HO4 := hide O4
           have HX4 := hide hX
           have HE4 := hide (HE3.out.grown G4 (fun r e => by simp [Value.ownBlock] at e))
           have HB4 := hide (HB3.out.grown G4 (by omega) (fun r e => by simp [Value.ownBlock] at e))
           clear O4 G4 Q4 hX c50 c13))
      have hgr : w4.grownBy (w4.setCell ⟨g5, 1, none⟩ (.slice (some ⟨g6, 0, none⟩) (0 + n) cap6)) (some g5) := ⟨rfl, rfl, rfl, by simp [World.setCell], fun i _ hne => Below.heap_setCell w4 ⟨g5, 1, none⟩ _ i (fun e => hne (by rw [e]))⟩
      have hX6 := HX4.out.set_ 1 (.slice (some ⟨g6, 0, none⟩) (0 + n) cap6)
      have HGR := hide hgr
      have HX6 := hide hX6
      rw [Nat.zero_add] at *
      have HE6 := hide (HE4.out.grown HGR.out (fun r e => by injection e with e; omega))
      have HB6 := hide (HB4.out.grown HGR.out (by have := HX4.out.lt; omega) (fun r e => by injection e with e; omega))
      have HO6 := hide (HO4.out.kept HGR.out (.inr (fun e => by have e' : some g6 = some g5 := e; injection e' with e'; omega)))
      clear hgr hX6
      generalize w4.setCell ⟨g5, 1, none⟩ (.slice (some ⟨g6, 0, none⟩) n cap6) = w5 at HX6 HE6 HB6 HO6 ⊢
      have c51 : w5.cell? ⟨g5, 1, none⟩ = some (.slice (some ⟨g6, 0, none⟩) n cap6) := HX6.out.cell 1
      have hbx := fun (w : World) => build_ex w
      have hg5w := HX6.out.lt
      clear HO4 HX4 HE4 HB4 HE3 HB3 HX5 HGR c54 f54
      go_upto_region 10 with (first
        | (refine wpList_push rfl rfl 22 33 (.tmp 33) (.tmp 32) (.tmp 34) rfl rfl (g5 + 1) 9 24 iI _ (.agg exI.cells.toArray) (.slice (some ⟨g6, 0, none⟩) n cap6) exI.cells _ n Try.underlying22 II.out.1 II.out.2.1 II.out.2.2.1 II.out.2.2.2 rfl (by omega) (by omega) (by rfl) rfl rfl exI.one HO6.out (by omega) (by unfold maxLen; omega) (by omega) (by rfl) (by rfl) ?_
           intro v7 w7 g8 G8 O7 B7 P7
           have hP7 : ∀ r, (Value.slice (some ⟨g6, 0, none⟩) n cap6).ownBlock = some r → g5 + 1 ≤ r := fun r e => ((RowL.of_own HO6.out).ge r e).1
           obtain ⟨g7, cap7, rfl, hc7, hg7, _⟩ := (RowL.of_own O7).form (by omega)
           have hX := HX6.out.grown P7 (fun e => by have := hP7 g5 e.symm; omega)
           have c57 : w7.cell? ⟨g5, 1, none⟩ = some (.slice (some ⟨g6, 0, none⟩) n cap6) := hX.cell 1
           have f57 := hX.frozen 1
           have HO7 := hide O7
           have HX7 := hide hX
           have HE7 := hide (HE6.out.grown P7 (fun r e => by have := hP7 r e; omega))
           have HB7 := hide (HB6.out.grown P7 (by omega) (fun r e => by have := hP7 r e; omega))
           clear O7 G8 B7 P7 hX hP7 c51))
      have hgr : w7.grownBy (w7.setCell ⟨g5, 1, none⟩ (.slice (some ⟨g7, 0, none⟩) (n + 1) cap7)) (some g5) := ⟨rfl, rfl, rfl, by simp [World.setCell], fun i _ hne => Below.heap_setCell w7 ⟨g5, 1, none⟩ _ i (fun e => hne (by rw [e]))⟩
      have hX8 := HX7.out.set_ 1 (.slice (some ⟨g7, 0, none⟩) (n + 1) cap7)
      have HGR := hide hgr
      have HX8 := hide hX8
      have HE8 := hide (HE7.out.grown HGR.out (fun r e => by injection e with e; omega))
      have HB8 := hide (HB7.out.grown HGR.out (by have := HX7.out.lt; omega) (fun r e => by injection e with e; omega))
      have HO8 := hide (HO7.out.kept HGR.out (.inr (fun e => by have e' : some g7 = some g5 := e; injection e' with e'; omega)))
      clear hgr hX8
      generalize w7.setCell ⟨g5, 1, none⟩ (.slice (some ⟨g7, 0, none⟩) (n + 1) cap7) = w8 at HX8 HE8 HB8 HO8 ⊢
      have c80 : w8.cell? ⟨g5, 0, none⟩ = some (.int .i64 c) := HX8.out.cell 0
      have c81 : w8.cell? ⟨g5, 1, none⟩ = some (.slice (some ⟨g7, 0, none⟩) (n + 1) cap7) := HX8.out.cell 1
      have hIN : InsAt w8 w8.heap.size (some ⟨g7, 0, none⟩) (n + 1) (l ++ [exI]) := by
        refine ⟨by rw [List.length_append, HL.out]; rfl, fun x hx => ?_, ?_⟩
        · rcases List.mem_append.1 hx with h | h
          · exact HE8.out.ins.2.1 x h
          · simp at h; subst h; exact exI_wf
        · have := Reads.of_own HO8.out
          rw [List.flatMap_append]
          simpa using this
      have HIN := hide hIN
      clear hIN HO7 HX7 HE7 HB7 HO6 HX6 HE6 HB6 c57 f57 hbx HO8
      go_wp2_with fail
      refine (run_any c (some ⟨g7, 0, none⟩) (n + 1) cap7 (l ++ [exI]) _ HIN.out hc7 (by omega)).mono ?_
      rintro e w9 ⟨A9, cap9, rfl, hc9, hb9, hb⟩
      rw [HR2.out, show (R ++ [(⟨(n : Int), (n : Int) + 1, []⟩ : BD)]).length = m + 1 by rw [List.length_append, HMR.out]; rfl] at hc9 hb9 ⊢
      rw [HCH.out]
      have HE9 := hide (HE8.out.step hb)
      have hsz8 : g5 ≤ w8.heap.size := Nat.le_of_lt HX8.out.lt
      have HB9 := hide (((HB8.out.more hsz8).below hb).more hb.size)
      have HX9 := hide (HX8.out.below hb HX8.out.lt)
      obtain ⟨ad9, y, s9, rfl, _, hy, _, hns, hcell⟩ := hb9.at_ (k := m) (by omega)
      obtain rfl : y = ⟨(n : Int), (n : Int) + 1, []⟩ := by
        rw [List.getElem?_append_right (by rw [HMR.out]; exact Nat.le_refl _), HMR.out, Nat.sub_self] at hy
        simpa using hy.symm
      obtain ⟨As, cs, rfl⟩ := hns.form
      have HT9 := hide (show BksAt w9 w9.heap.size (some ad9) m R by
        have := hb9.take (m := m) (by omega)
        rw [List.take_append_of_le_length (by rw [HMR.out]; exact Nat.le_refl _), List.take_of_length_le (by rw [HMR.out]; exact Nat.le_refl _)] at this
        exact this)
      have HC9 := hide hcell
      have hm0 : (0 : Int) ≤ (m : Int) := by omega
      have hm1 : (m : Int) ≤ (cap9 : Int) := by omega
      clear hb hb9 hy hns hcell c80 c81 HIN HE8 HB8 HX8
      go_wp2_with fail
      refine (same_any (some ad9) A2 m cap9 m cap2 R R _ HT9.out HB9.out (by omega) (by omega)).mono ?_
      rintro e w10 ⟨rfl, hb⟩
      rw [sameL_iff.2 rfl]
      have HE10 := hide (HE9.out.step hb)
      have HX10 := hide (HX9.out.below hb HX9.out.lt)
      have hlt9 := World.block_lt_of_cell? w9 _ (HC9.out 0 _ rfl)
      rw [block_of_add] at hlt9
      have HC10 := hide (fun (j : Nat) (u : Value) (h : (bkC (BD.mk (n : Int) ((n : Int) + 1) [], Value.slice As ([] : List Int).length cs))[j]? = some u) => (hb.cell (p := (ad9.add (m * 3)).add j) (by rw [block_of_add]; exact hlt9)).trans (HC9.out j u h))
      clear hlt9
      have c11 := HE10.out.box1
      have c51 : w10.cell? ⟨g5, 1, none⟩ = some (.slice (some ⟨g7, 0, none⟩) (n + 1) cap7) := HX10.out.cell 1
      clear hb HT9 HB9 HC9 HE9 HX9
      go_upto_region 14 with (refine wpList_load_at rfl 41 (.tmp 64) rfl (ad9.add (m * 3)) (by rfl) [.int .i64 (n : Int), .int .i64 ((n : Int) + 1), .slice As 0 cs] _ HC10.out Try.underlying41 rfl sizB ?_)
      have X := Blk.new w10 41 #[.int .i64 (n : Int), .int .i64 ((n : Int) + 1), .slice As 0 cs]
      have L : Below w10.heap.size w10 (w10.alloc (.cells #[.int .i64 (n : Int), .int .i64 ((n : Int) + 1), .slice As 0 cs] 41)) := (Below.refl _ _).alloc (Nat.le_refl _) _
      generalize w10.alloc (.cells #[.int .i64 (n : Int), .int .i64 ((n : Int) + 1), .slice As 0 cs] 41) = w11 at X L ⊢
      have HE11 := hide (HE10.out.step L)
      have hX11 := HX10.out.below L HX10.out.lt
      have q0 : w11.cell? ⟨w10.heap.size, 0, none⟩ = some (.int .i64 (n : Int)) := X.cell 0
      have q1 : w11.cell? ⟨w10.heap.size, 1, none⟩ = some (.int .i64 ((n : Int) + 1)) := X.cell 1
      have q2 : w11.cell? ⟨w10.heap.size, 2, none⟩ = some (.slice As 0 cs) := X.cell 2
      have q3 := HE11.out.box1
      have q4 : w11.cell? ⟨g5, 1, none⟩ = some (.slice (some ⟨g7, 0, none⟩) (n + 1) cap7) := hX11.cell 1
      clear X L hX11 c11 c51 HC10 HE10 HX10
      go_wp2_with fail
      refine (wakes_any _).mono ?_
      rintro e w12 ⟨rfl, hb⟩
      have HE12 := hide (HE11.out.step hb)
      clear hb
      go_wp2
      go_ret
      exact ⟨rfl, HE12.out.below⟩
    · have be : (er != 0) = true := by simpa using he
      clear he her HER hc2 HB2 c0 c1
      go_wp2_with fail
      refine (wakes_any _).mono ?_
      rintro e w12 ⟨rfl, hb⟩
      replace HE := hide (HE.out.step hb)
      clear hb
      go_wp2
      go_ret
      exact ⟨rfl, HE.out.below⟩
end Go.Proofs.Ytbdofidapddgaaa
