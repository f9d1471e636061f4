/-
  Contract of symbc's method ends. Conditions: those written in each statement.
-/
import Derived.Test.YtepagfkkjlbipaaSt
namespace Go.Proofs.Ytepagfkkjlbipaa
open Go.RowKit
set_option linter.unusedVariables false
set_option linter.unusedSimpArgs false
set_option maxRecDepth 100000
section
variable {base g b : Nat} {F G F1 G1 : Nat → Prop} {m : SM} {ex : ExD} {w : World}
theorem MA.exit2 {w' : World} (h : MA base g b F G m ex w) {cs : List Value} (hB0 : Blk w b 72 cs.toArray) (ex' : ExD) (hB1 : Blk w' b 72 (overC cs 13 [.int .i8 ex'.kind, .int .i64 ex'.v, .int .i64 ex'.tgt, .int .i64 ex'.els]).toArray) (Gr : w.grownBy w' (some b)) : MG base g b G w F G m ex' w' :=
  h.exit ex' (fun es hE => by
    have e : w.heap[b]? = some (.cells cs.toArray 72 (0, 0)) := hB0
    have e2 : w.heap[b]? = some (.cells (mC g m.regs es ex m.err).toArray 72 (0, 0)) := hE
    rw [e] at e2
    injection e2 with e2
    injection e2 with e2
    have e3 : cs = mC g m.regs es ex m.err := by simpa using e2
    rw [e3] at hB1
    exact hB1) Gr
theorem sizX : (Try.prog.info? 38).map (·.size) = some 4 := by kernel_rfl
def exC (e : ExD) : List Value := [.int .i8 e.kind, .int .i64 e.v, .int .i64 e.tgt, .int .i64 e.els]
theorem exC_one (e : ExD) : ∀ u ∈ exC e, u.oneCell' = true := by
  intro u hu
  unfold exC at hu
  simp only [List.mem_cons, List.not_mem_nil, or_false] at hu
  rcases hu with rfl | rfl | rfl | rfl <;> rfl
theorem build_ret (n : Int) (w : World) : (Instr.build 38 #[(0, .int .i8 0), (1, .int .i64 n)]).run Try.prog w = .ok (.agg (exC ⟨0, n, 0, 0⟩).toArray) w := run_build w 38 _ _ (by kernel_rfl)
theorem build_goto (n : Int) (w : World) : (Instr.build 38 #[(0, .int .i8 1), (2, .int .i64 n)]).run Try.prog w = .ok (.agg (exC ⟨1, 0, n, 0⟩).toArray) w := run_build w 38 _ _ (by kernel_rfl)
theorem NumsF.at0 {nn cn : Nat} {An : Option Addr} {nx : List Int} (h : NumsF w G (.slice An nn cn) nx) {k : Nat} (hk : k < nn) : ∃ ad, An = some ad ∧ ad.block < w.heap.size ∧ w.cell? (ad.add k) = some (.int .i64 (nx.getD k 0)) := by
  obtain ⟨ad, x, e, hb, hx, _, hc⟩ := h.at_ hk
  exact ⟨ad, e, hb, by rw [hc, List.getD_eq_getElem?_getD, hx]; rfl⟩
set_option maxHeartbeats 4000000 in
theorem ends_ret (h : MA base g b F G m ex w) (x : ID) (hk : x.kind = 6) (s : Value) (nx : List Int) : Calls Try.prog 27 #[.pointer (some ⟨b, 0, none⟩), .agg x.cells.toArray, s] w (MEnd base g b G (m.ends x nx).2 w (m.ends x nx).1) := by
  have hb0 : base ≤ w.heap.size := Nat.le_trans (h.low b h.nb.2).1 (Nat.le_of_lt h.lt)
  have hbl := ((Below.refl w.heap.size w).alloc (Nat.le_refl _) (.cells x.cells.toArray 26))
  have HG := hide (MG.of_below h hbl)
  have HB0 := hide (show Blk (w.alloc (.cells x.cells.toArray 26)) w.heap.size 26 x.cells.toArray from Blk.new w 26 x.cells.toArray)
  have HLOW := hide (fun (e : G w.heap.size) => by have := (h.low _ e).2; omega : ¬ G w.heap.size)
  obtain ⟨r0, hr0⟩ : ∃ r, m.regs.getD 0 0 = r := ⟨_, rfl⟩
  have HNX := hide (show m.ends x nx = (m, ⟨0, r0, 0, 0⟩) by unfold SM.ends; rw [if_pos hk, ← hr0]; rfl)
  have c1 : (w.alloc (.cells x.cells.toArray 26)).cell? ⟨b, 1, none⟩ = some (.int .i64 r0) := by rw [← hr0]; exact HG.out.at_.creg (d := 0) (by omega)
  have HM := hide (MG.refl HG.out.at_)
  have HK := hide hk
  clear h hk hb0 hbl hr0
  go_enter Try.func27, Try.ntmps27
  go_upto_region 1 with fail
  generalize (w.alloc (.cells x.cells.toArray 26)) = Wd at HG HM HB0 c1 ⊢
  generalize w.heap.size = bx at HB0 HLOW ⊢
  have b0 : Wd.cell? ⟨bx, 0, none⟩ = some (.int .i8 6) := by rw [← HK.out]; exact HB0.out.cell 0
  have qb := fun (W : World) => build_ret r0 W
  obtain ⟨es, qe, hBs, _⟩ := HM.out.at_.box
  have HBS := hide hBs
  have HLN := hide HM.out.at_.len
  clear hBs
  go_wp2_with (first
    | (refine wpList_store_at rfl 38 (.tmp 40) (.tmp 37) rfl b 13 72 _ (exC ⟨0, r0, 0, 0⟩) (.agg (exC ⟨0, r0, 0, 0⟩).toArray) HBS.out (by rfl) (by rfl) rfl sizX (by rw [mC_len HLN.out]; simp [exC]) (exC_one _) ?_
       intro wq hBq hgq hsq
       have HMQ := hide (HM.out.trans (HM.out.at_.exit2 HBS.out ⟨0, r0, 0, 0⟩ hBq hgq))
       clear hBq hgq hsq)
    | fail)
  go_end0
  rw [HNX.out]
  exact ⟨rfl, _, _, HG.out.trans HMQ.out⟩
theorem run_ixs {ad : Addr} {nn cn k : Nat} {i : Int} (hi : i = (k : Int)) (hk : k < nn) (w : World) : (Instr.indexAt 49 (.slice (some ad) nn cn) (.int .i64 i)).run Try.prog w = .ok (.pointer (some (ad.add k))) w := by
  subst hi
  go_simp
/-- The blocks that are next, as they lie. -/
def NT (ad : Addr) (n0 n1 : Int) (w : World) : Prop := w.cell? (ad.add 0) = some (.int .i64 n0) ∧ w.cell? (ad.add 1) = some (.int .i64 n1)
set_option maxHeartbeats 4000000 in
theorem ends_far (h : MA base g b F G m ex w) (x : ID) (hk6 : x.kind ≠ 6) (hk : x.kind ≠ 3) {An : Option Addr} {nn cn : Nat} {nx : List Int} (hn : NumsF w G (.slice An nn cn) nx) (hnn : 0 < nn) : Calls Try.prog 27 #[.pointer (some ⟨b, 0, none⟩), .agg x.cells.toArray, .slice An nn cn] w (MEnd base g b G (m.ends x nx).2 w (m.ends x nx).1) := by
  have hb0 : base ≤ w.heap.size := Nat.le_trans (h.low b h.nb.2).1 (Nat.le_of_lt h.lt)
  have hbl := (Below.refl w.heap.size w).alloc (Nat.le_refl _) (.cells x.cells.toArray 26)
  have HG := hide (MG.of_below h hbl)
  have HB0 := hide (show Blk (w.alloc (.cells x.cells.toArray 26)) w.heap.size 26 x.cells.toArray from Blk.new w 26 x.cells.toArray)
  have HLOW := hide (fun (e : G w.heap.size) => by have := (h.low _ e).2; omega : ¬ G w.heap.size)
  have HNF := hide (hn.chg (G := G) (Chg.of_below hbl) (fun k q => .inr q) (fun k q => .inl q))
  obtain ⟨n0, hn0⟩ : ∃ n, nx.getD 0 0 = n := ⟨_, rfl⟩
  have HNX := hide (show m.ends x nx = (m, ⟨1, 0, n0, 0⟩) by unfold SM.ends; rw [if_neg hk6, if_neg (by rintro ⟨q1, q2⟩; exact hk q1), hn0])
  obtain ⟨ad, hAn, hab, hc0⟩ := HNF.out.at0 (k := 0) (by omega)
  subst hAn
  rw [hn0] at hc0
  have hk6' : (x.kind == 6) = false := by simpa using hk6
  have hk3' : (x.kind == 3) = false := by simpa using hk
  have HM := hide (MG.refl HG.out.at_)
  have HC0 := hide hc0
  skip
  have HNN := hide (And.intro hnn hnn)
  obtain ⟨kd, hkd⟩ : ∃ k, x.kind = k := ⟨_, rfl⟩
  rw [hkd] at hk6' hk3'
  have b0 : (w.alloc (.cells x.cells.toArray 26)).cell? ⟨w.heap.size, 0, none⟩ = some (.int .i8 kd) := by rw [← hkd]; exact HB0.out.cell 0
  clear h hk hk6 hb0 hbl hn hn0 hc0 hkd hab HNF
  go_enter Try.func27, Try.ntmps27
  go_upto_region 1 with fail
  generalize (w.alloc (.cells x.cells.toArray 26)) = Wd at HG HM HB0 HC0 b0 ⊢
  generalize w.heap.size = bx at HB0 HLOW b0 ⊢
  have HB1 := hide b0
  go_upto_region 2 with fail
  clear b0
  refine wp_region_E (fun w' => w'.cell? ⟨bx, 0, none⟩ = some (.int .i8 kd)) (fun _ => True) [] (by kernel_rfl) ?_
  have HT := hide (show Wd.drew.cell? ⟨bx, 0, none⟩ = some (.int .i8 kd) from HB1.out)
  have c0 : Wd.drew.cell? ad = some (.int .i64 n0) := HC0.out
  have b0 : Wd.drew.cell? ⟨bx, 0, none⟩ = some (.int .i8 kd) := HB1.out
  replace HM := hide (HM.out.step ((Below.refl _ _).drew))
  generalize Wd.drew = We at HM HT c0 b0 ⊢
  refine E_field 0 (some 14) 26 _ 0 ⟨bx, 0, none⟩ ⟨bx, 0, none⟩ rfl (by kernel_rfl) (by rfl) (fun _ _ _ h => h) (by rfl) (fun w => by kernel_rfl) (.both HT.out trivial) ?_
  simp only [Act.put, List.setIfInBounds_toArray, List.set_cons_zero, List.set_cons_succ]
  refine E_load1 false 1 (some 15) 24 _ ⟨bx, 0, none⟩ (.int .i8 kd) rfl (by kernel_rfl) (by rfl) (fun _ _ _ h => h) (by rfl) (fun w hS => run_loadVar_one _ _ _ _ Try.underlying24 rfl hS.1) (.both HT.out trivial) ?_
  simp only [Act.put, List.setIfInBounds_toArray, List.set_cons_zero, List.set_cons_succ]
  refine E_any false 2 (some 16) _ (.bool false) rfl (by kernel_rfl) (by rfl) (fun _ _ _ h => h) (fun o e w _ => by unfold execOp; simp only [e]; go_simp) (.both HT.out trivial) ?_
  simp only [Act.put, List.setIfInBounds_toArray, List.set_cons_zero, List.set_cons_succ]
  refine E_move 3 (some 17) _ (.bool false) rfl (by kernel_rfl) (by rfl) (fun _ _ _ h => h) (by rfl) (.both HT.out trivial) ?_
  simp only [Act.put, List.setIfInBounds_toArray, List.set_cons_zero, List.set_cons_succ]
  refine E_not 4 (some 18) _ rfl (by kernel_rfl) (by rfl) (fun _ _ _ h => h) (.both HT.out trivial) ?_
  simp only [Act.put, List.setIfInBounds_toArray, List.set_cons_zero, List.set_cons_succ]
  refine E_not 5 (some 19) _ rfl (by kernel_rfl) (by rfl) (fun _ _ _ h => h) (.both HT.out trivial) ?_
  simp only [Act.put, List.setIfInBounds_toArray, List.set_cons_zero, List.set_cons_succ]
  refine E_not 6 (some 20) _ rfl (by kernel_rfl) (by rfl) (fun _ _ _ h => h) (.both HT.out trivial) ?_
  simp only [Act.put, List.setIfInBounds_toArray, List.set_cons_zero, List.set_cons_succ]
  refine E_not 7 (some 21) _ rfl (by kernel_rfl) (by rfl) (fun _ _ _ h => h) (.both HT.out trivial) ?_
  simp only [Act.put, List.setIfInBounds_toArray, List.set_cons_zero, List.set_cons_succ]
  refine E_not 8 (some 22) _ rfl (by kernel_rfl) (by rfl) (fun _ _ _ h => h) (.both HT.out trivial) ?_
  simp only [Act.put, List.setIfInBounds_toArray, List.set_cons_zero, List.set_cons_succ]
  refine E_not 9 (some 23) _ rfl (by kernel_rfl) (by rfl) (fun _ _ _ h => h) (.both HT.out trivial) ?_
  simp only [Act.put, List.setIfInBounds_toArray, List.set_cons_zero, List.set_cons_succ]
  refine E_not 10 (some 24) _ rfl (by kernel_rfl) (by rfl) (fun _ _ _ h => h) (.both HT.out trivial) ?_
  simp only [Act.put, List.setIfInBounds_toArray, List.set_cons_zero, List.set_cons_succ]
  refine E_pick 11 (some 25) _ _ _ false (.bool false) rfl (by kernel_rfl) (by rfl) (fun _ _ _ h => h) (by rfl) (by rfl) (.both HT.out trivial) ?_
  simp only [Act.put, List.setIfInBounds_toArray, List.set_cons_zero, List.set_cons_succ]
  refine E_one 12 (by kernel_rfl) (StepE.assign 12 (some 13) _ (.bool false) rfl (by rfl) (by rfl) (.both HT.out trivial) ?_)
  simp only [Act.put, List.setIfInBounds_toArray, List.set_cons_zero, List.set_cons_succ]
  refine wpAnyE_done (by kernel_rfl) ?_ _
  have qb := fun (W : World) => build_goto n0 W
  obtain ⟨es, qe, hBs, _⟩ := HM.out.at_.box
  have HBS := hide hBs
  have HLN := hide HM.out.at_.len
  clear hBs
  go_wp2_with (first
    | (refine wpList_store_at rfl 38 (.tmp 99) (.tmp 96) rfl b 13 72 _ (exC ⟨1, 0, n0, 0⟩) (.agg (exC ⟨1, 0, n0, 0⟩).toArray) HBS.out (by rfl) (by rfl) rfl sizX (by rw [mC_len HLN.out]; simp [exC]) (exC_one _) ?_
       intro wq hBq hgq hsq
       have HMQ := hide (HM.out.trans (HM.out.at_.exit2 HBS.out ⟨1, 0, n0, 0⟩ hBq hgq))
       clear hBq hgq hsq)
    | fail)
  go_end0
  rw [HNX.out]
  exact ⟨rfl, _, _, HG.out.trans HMQ.out⟩
set_option maxHeartbeats 4000000 in
theorem ends_same (h : MA base g b F G m ex w) (x : ID) (hk6 : x.kind ≠ 6) (hk : x.kind = 3) {An : Option Addr} {nn cn : Nat} {nx : List Int} (hn : NumsF w G (.slice An nn cn) nx) (hnn : 1 < nn) (he : nx.getD 0 0 = nx.getD 1 0) : Calls Try.prog 27 #[.pointer (some ⟨b, 0, none⟩), .agg x.cells.toArray, .slice An nn cn] w (MEnd base g b G (m.ends x nx).2 w (m.ends x nx).1) := by
  have hb0 : base ≤ w.heap.size := Nat.le_trans (h.low b h.nb.2).1 (Nat.le_of_lt h.lt)
  have hbl := (Below.refl w.heap.size w).alloc (Nat.le_refl _) (.cells x.cells.toArray 26)
  have HG := hide (MG.of_below h hbl)
  have HB0 := hide (show Blk (w.alloc (.cells x.cells.toArray 26)) w.heap.size 26 x.cells.toArray from Blk.new w 26 x.cells.toArray)
  have HLOW := hide (fun (e : G w.heap.size) => by have := (h.low _ e).2; omega : ¬ G w.heap.size)
  have HNF := hide (hn.chg (G := G) (Chg.of_below hbl) (fun k q => .inr q) (fun k q => .inl q))
  obtain ⟨n0, hn0⟩ : ∃ n, nx.getD 0 0 = n := ⟨_, rfl⟩
  obtain ⟨n1, hn1⟩ : ∃ n, nx.getD 1 0 = n := ⟨_, rfl⟩
  have HNX := hide (show m.ends x nx = (m, ⟨1, 0, n0, 0⟩) by unfold SM.ends; rw [if_neg hk6, if_neg (by rintro ⟨q1, q2⟩; exact q2 he), hn0])
  obtain ⟨ad, hAn, hab, hc0⟩ := HNF.out.at0 (k := 0) (by omega)
  subst hAn
  rw [hn0] at hc0
  obtain ⟨ad', hAn, _, hc1⟩ := HNF.out.at0 (k := 1) (by omega)
  injection hAn with hAn
  subst hAn
  rw [hn1] at hc1
  have hne : (n0 != n1) = false := by rw [← hn0, ← hn1, he]; simp
  have hk6' : (x.kind == 6) = false := by simpa using hk6
  have hk3' : (x.kind == 3) = true := by simpa using hk
  have HM := hide (MG.refl HG.out.at_)
  have HC0 := hide hc0
  have HC1 := hide hc1
  have HNN := hide (And.intro (show 0 < nn by omega) (show 1 < nn by omega))
  obtain ⟨kd, hkd⟩ : ∃ k, x.kind = k := ⟨_, rfl⟩
  rw [hkd] at hk6' hk3'
  have b0 : (w.alloc (.cells x.cells.toArray 26)).cell? ⟨w.heap.size, 0, none⟩ = some (.int .i8 kd) := by rw [← hkd]; exact HB0.out.cell 0
  clear h hk hk6 hb0 hbl hn hn0 hn1 he hc1 hc0 hkd hab HNF
  go_enter Try.func27, Try.ntmps27
  go_upto_region 1 with fail
  generalize (w.alloc (.cells x.cells.toArray 26)) = Wd at HG HM HB0 HC0 HC1 b0 ⊢
  generalize w.heap.size = bx at HB0 HLOW b0 ⊢
  have HB1 := hide b0
  go_upto_region 2 with fail
  clear b0
  refine wp_region_E (fun w' => w'.cell? ⟨bx, 0, none⟩ = some (.int .i8 kd) ∧ NT ad n0 n1 w') (fun _ => True) [] (by kernel_rfl) ?_
  have HT := hide (show Wd.drew.cell? ⟨bx, 0, none⟩ = some (.int .i8 kd) ∧ NT ad n0 n1 Wd.drew from ⟨HB1.out, HC0.out, HC1.out⟩)
  have c0 : Wd.drew.cell? ad = some (.int .i64 n0) := HC0.out
  have b0 : Wd.drew.cell? ⟨bx, 0, none⟩ = some (.int .i8 kd) := HB1.out
  replace HM := hide (HM.out.step ((Below.refl _ _).drew))
  generalize Wd.drew = We at HM HT c0 b0 ⊢
  refine E_field 0 (some 14) 26 _ 0 ⟨bx, 0, none⟩ ⟨bx, 0, none⟩ rfl (by kernel_rfl) (by rfl) (fun _ _ _ h => h) (by rfl) (fun w => by kernel_rfl) (.both HT.out trivial) ?_
  simp only [Act.put, List.setIfInBounds_toArray, List.set_cons_zero, List.set_cons_succ]
  refine E_load1 false 1 (some 15) 24 _ ⟨bx, 0, none⟩ (.int .i8 kd) rfl (by kernel_rfl) (by rfl) (fun _ _ _ h => h) (by rfl) (fun w hS => run_loadVar_one _ _ _ _ Try.underlying24 rfl hS.1.1) (.both HT.out trivial) ?_
  simp only [Act.put, List.setIfInBounds_toArray, List.set_cons_zero, List.set_cons_succ]
  refine E_any false 2 (some 16) _ (.bool true) rfl (by kernel_rfl) (by rfl) (fun _ _ _ h => h) (fun o e w _ => by unfold execOp; simp only [e]; go_simp) (.both HT.out trivial) ?_
  simp only [Act.put, List.setIfInBounds_toArray, List.set_cons_zero, List.set_cons_succ]
  refine E_move 3 (some 17) _ (.bool true) rfl (by kernel_rfl) (by rfl) (fun _ _ _ h => h) (by rfl) (.both HT.out trivial) ?_
  simp only [Act.put, List.setIfInBounds_toArray, List.set_cons_zero, List.set_cons_succ]
  refine E_move 4 (some 18) _ (.slice (some ad) nn cn) rfl (by kernel_rfl) (by rfl) (fun _ _ _ h => h) (by rfl) (.both HT.out trivial) ?_
  simp only [Act.put, List.setIfInBounds_toArray, List.set_cons_zero, List.set_cons_succ]
  refine E_index 5 (some 19) _ _ _ (.slice (some ad) nn cn) (.int .i64 0) (.pointer (some (ad.add 0))) rfl (by kernel_rfl) (by rfl) (fun _ _ _ h => h) (by rfl) (by rfl) (run_ixs (k := 0) rfl HNN.out.1) (.both HT.out trivial) ?_
  simp only [Act.put, List.setIfInBounds_toArray, List.set_cons_zero, List.set_cons_succ]
  refine E_load1 false 6 (some 20) 3 _ (ad.add 0) (.int .i64 n0) rfl (by kernel_rfl) (by rfl) (fun _ _ _ h => h) (by rfl) (fun w hS => run_loadVar_one _ _ _ _ Try.underlying3 rfl hS.1.2.1) (.both HT.out trivial) ?_
  simp only [Act.put, List.setIfInBounds_toArray, List.set_cons_zero, List.set_cons_succ]
  refine E_move 7 (some 21) _ (.slice (some ad) nn cn) rfl (by kernel_rfl) (by rfl) (fun _ _ _ h => h) (by rfl) (.both HT.out trivial) ?_
  simp only [Act.put, List.setIfInBounds_toArray, List.set_cons_zero, List.set_cons_succ]
  refine E_index 8 (some 22) _ _ _ (.slice (some ad) nn cn) (.int .i64 1) (.pointer (some (ad.add 1))) rfl (by kernel_rfl) (by rfl) (fun _ _ _ h => h) (by rfl) (by rfl) (run_ixs (k := 1) rfl HNN.out.2) (.both HT.out trivial) ?_
  simp only [Act.put, List.setIfInBounds_toArray, List.set_cons_zero, List.set_cons_succ]
  refine E_load1 false 9 (some 23) 3 _ (ad.add 1) (.int .i64 n1) rfl (by kernel_rfl) (by rfl) (fun _ _ _ h => h) (by rfl) (fun w hS => run_loadVar_one _ _ _ _ Try.underlying3 rfl hS.1.2.2) (.both HT.out trivial) ?_
  simp only [Act.put, List.setIfInBounds_toArray, List.set_cons_zero, List.set_cons_succ]
  refine E_any false 10 (some 24) _ (.bool false) rfl (by kernel_rfl) (by rfl) (fun _ _ _ h => h) (fun o e w _ => by unfold execOp; simp only [e]; go_simp) (.both HT.out trivial) ?_
  simp only [Act.put, List.setIfInBounds_toArray, List.set_cons_zero, List.set_cons_succ]
  refine E_pick 11 (some 25) _ _ _ true (.bool false) rfl (by kernel_rfl) (by rfl) (fun _ _ _ h => h) (by rfl) (by rfl) (.both HT.out trivial) ?_
  simp only [Act.put, List.setIfInBounds_toArray, List.set_cons_zero, List.set_cons_succ]
  refine E_one 12 (by kernel_rfl) (StepE.assign 12 (some 13) _ (.bool false) rfl (by rfl) (by rfl) (.both HT.out trivial) ?_)
  simp only [Act.put, List.setIfInBounds_toArray, List.set_cons_zero, List.set_cons_succ]
  refine wpAnyE_done (by kernel_rfl) ?_ _
  have qb := fun (W : World) => build_goto n0 W
  obtain ⟨es, qe, hBs, _⟩ := HM.out.at_.box
  have HBS := hide hBs
  have HLN := hide HM.out.at_.len
  clear hBs
  go_wp2_with (first
    | (refine wpList_store_at rfl 38 (.tmp 99) (.tmp 96) rfl b 13 72 _ (exC ⟨1, 0, n0, 0⟩) (.agg (exC ⟨1, 0, n0, 0⟩).toArray) HBS.out (by rfl) (by rfl) rfl sizX (by rw [mC_len HLN.out]; simp [exC]) (exC_one _) ?_
       intro wq hBq hgq hsq
       have HMQ := hide (HM.out.trans (HM.out.at_.exit2 HBS.out ⟨1, 0, n0, 0⟩ hBq hgq))
       clear hBq hgq hsq)
    | fail)
  go_end0
  rw [HNX.out]
  exact ⟨rfl, _, _, HG.out.trans HMQ.out⟩
end
end Go.Proofs.Ytepagfkkjlbipaa
