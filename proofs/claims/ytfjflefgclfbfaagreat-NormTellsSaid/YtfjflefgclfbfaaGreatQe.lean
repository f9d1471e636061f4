/-
  The document's value of a term out of its parts' values. Conditions: those written in each statement.
  The document's Eval. Conditions: those written in each statement.
  The law's own making of a term in the document's pool; what stands in NormTells' loop. Conditions: those written in each statement.
-/
import Derived.Test.YtfjflefgclfbfaaGreatQd
import Derived.Test.YtfjflefgclfbfaaGreatUc
import Derived.Test.YtfjflefgclfbfaaGreatUi
import Derived.Test.YtfjflefgclfbfaaGreatKe
section
namespace Go.Proofs.YtfjflefgclfbfaaGreat
open Go.RowKit
set_option linter.unusedVariables false
set_option linter.unusedSimpArgs false
set_option maxRecDepth 100000
/-- What one answers: the value, and whether there is one. -/
def oneP (vs : List Int) (t : TD) (vl : Int → Int) (bad : Int → Bool) : Int × Bool :=
  if t.kind = 0 then (t.n, true)
  else if t.kind = 1 then (if (vs.length : Int) ≤ t.n then (0, false) else (cutV t.w (vs.getD t.n.toNat 0), true))
  else if t.kind = 3 then (cutV t.w (vl t.a), !bad t.a)
  else if t.kind = 2 then (doU t.op t.w (vl t.a) (vl t.b), !bad t.a && !bad t.b)
  else if t.kind = 4 then (flagV (holdsU t.op t.w (vl t.a) (vl t.b)), !bad t.a && !bad t.b)
  else (cond (vl t.a == 0) (vl t.c) (vl t.b), !bad t.a && !bad t.b && !bad t.c)
/-- Words, flags that a slice reads as. -/
def WordsAt (w : World) (v : Value) (xs : List Int) : Prop := ∃ A c, v = .slice A xs.length c ∧ xs.length ≤ c ∧ Reads w w.heap.size 1 A xs.length (xs.map (Value.int .u64))
def FlagsAt (w : World) (v : Value) (xs : List Bool) : Prop := ∃ A c, v = .slice A xs.length c ∧ xs.length ≤ c ∧ Reads w w.heap.size 1 A xs.length (xs.map Value.bool)
theorem WordsAt.below {w w' : World} {v : Value} {xs : List Int} (h : WordsAt w v xs) (hb : Below w.heap.size w w') : WordsAt w' v xs := by
  obtain ⟨A, c, h1, h2, h3⟩ := h
  exact ⟨A, c, h1, h2, reads_mono_ (h3.below hb) hb.size⟩
theorem FlagsAt.below {w w' : World} {v : Value} {xs : List Bool} (h : FlagsAt w v xs) (hb : Below w.heap.size w w') : FlagsAt w' v xs := by
  obtain ⟨A, c, h1, h2, h3⟩ := h
  exact ⟨A, c, h1, h2, reads_mono_ (h3.below hb) hb.size⟩
theorem WordsAt.at_ {w : World} {v : Value} {xs : List Int} (h : WordsAt w v xs) {k : Int} (h0 : 0 ≤ k) (hk : k < xs.length) : ∃ ad c j, v = .slice (some ad) xs.length c ∧ xs.length ≤ c ∧ k = ((j : Nat) : Int) ∧ j < xs.length ∧ w.cell? (ad.add j) = some (.int .u64 (xs.getD k.toNat 0)) := by
  obtain ⟨A, c, rfl, h2, h3⟩ := h
  obtain ⟨j, rfl⟩ : ∃ j : Nat, k = j := ⟨k.toNat, by omega⟩
  obtain ⟨ad, u, rfl, _, hu, hc⟩ := h3.at_ (k := j) (by omega)
  rw [List.getElem?_map, List.getElem?_eq_getElem (by omega)] at hu
  injection hu with hu
  subst hu
  refine ⟨ad, c, j, rfl, h2, rfl, by omega, ?_⟩
  rw [hc, Int.toNat_natCast, List.getD_eq_getElem?_getD, List.getElem?_eq_getElem (by omega)]
  rfl
theorem FlagsAt.at_ {w : World} {v : Value} {xs : List Bool} (h : FlagsAt w v xs) {k : Int} (h0 : 0 ≤ k) (hk : k < xs.length) : ∃ ad c j, v = .slice (some ad) xs.length c ∧ xs.length ≤ c ∧ k = ((j : Nat) : Int) ∧ j < xs.length ∧ w.cell? (ad.add j) = some (.bool (xs.getD k.toNat false)) := by
  obtain ⟨A, c, rfl, h2, h3⟩ := h
  obtain ⟨j, rfl⟩ : ∃ j : Nat, k = j := ⟨k.toNat, by omega⟩
  obtain ⟨ad, u, rfl, _, hu, hc⟩ := h3.at_ (k := j) (by omega)
  rw [List.getElem?_map, List.getElem?_eq_getElem (by omega)] at hu
  injection hu with hu
  subst hu
  refine ⟨ad, c, j, rfl, h2, rfl, by omega, ?_⟩
  rw [hc, Int.toNat_natCast, List.getD_eq_getElem?_getD, List.getElem?_eq_getElem (by omega)]
  rfl
def OneQ (vs : List Int) (t : TD) (vl : List Int) (bl : List Bool) (e : Ending) : Prop := e = .returned (.tuple #[.int .u64 (oneP vs t (fun k => vl.getD k.toNat 0) (fun k => bl.getD k.toNat false)).1, .bool (oneP vs t (fun k => vl.getD k.toNat 0) (fun k => bl.getD k.toNat false)).2])
theorem okF_do {t : TD} (h : okF t = true) (hk : t.kind = 2) : doOk t.op t.w = true := by
  unfold okF askT at h
  rw [hk] at h
  simp at h
  unfold doOk longB
  simp
  omega
theorem okF_holds {t : TD} (h : okF t = true) (hk : t.kind = 4) : holdsOk t.op t.w = true := by
  unfold okF askT at h
  rw [hk] at h
  simp at h
  unfold holdsOk longB
  simp
  omega
theorem getD_u64 {xs : List Int} (h : ∀ v ∈ xs, U64 v) (k : Nat) : U64 (xs.getD k 0) := by
  rw [List.getD_eq_getElem?_getD]
  cases e : xs[k]? with
  | none => exact zero_u64
  | some v => exact h v (List.mem_of_getElem? e)
set_option maxHeartbeats 4000000 in
theorem one_0 (vs : List Int) (t : TD) (vl : List Int) (bl : List Bool) (sv sl sb : Value) (ht : t.wf) (hok : okF t = true) (huv : ∀ v ∈ vs, U64 v) (hul : ∀ v ∈ vl, U64 v) (hlen : bl.length = vl.length) (hfew : vl.length ≤ 4000) (hfv : vs.length ≤ 4000) (hp : ∀ k ∈ prtL t, 0 ≤ k ∧ k < (vl.length : Int)) (n0 : t.kind = 0) (w : World) (hvs : WordsAt w sv vs) (hvl : WordsAt w sl vl) (hbl : FlagsAt w sb bl) :
    Calls Tryz.prog 28 #[termV t, sv, sl, sb] w fun e w' => OneQ vs t vl bl e ∧ Below w.heap.size w w' := by
  have HX0 := hide (Blk.new w 67 t.cells.toArray)
  have HB0 := hide (bl_alloc' w (.cells t.cells.toArray 67))
  have HVS := hide (hvs.below HB0.out)
  have HVL := hide (hvl.below HB0.out)
  have HBL := hide (hbl.below HB0.out)
  have HOK := hide hok
  have HTW := hide ht
  have HUV := hide huv
  have HUL := hide hul
  obtain ⟨r, hr⟩ : ∃ r, oneP vs t (fun k => vl.getD k.toNat 0) (fun k => bl.getD k.toNat false) = r := ⟨_, rfl⟩
  unfold OneQ
  rw [hr]
  unfold oneP at hr
  dsimp only at hr
  rw [if_pos n0] at hr
  subst hr
  unfold termV
  go_enter Tryz.func28, Tryz.ntmps28
  go_upto_region 1 with fail
  generalize w.alloc (.cells t.cells.toArray 67) = w1 at HX0 HB0 HVS HVL HBL  ⊢
  obtain ⟨bx, hbx⟩ : ∃ b, w.heap.size = b := ⟨_, rfl⟩
  rw [hbx] at HX0 ⊢
  have q0 := HX0.out.cell 0
  have q3 := HX0.out.cell 3
  simp [TD.cells] at q0 q3
  go_wp2
  exact bodyPost_ret (v := .tuple #[.int .u64 t.n, .bool true]) (by simp [results, Tryz.results28, go_sem]) rfl ⟨rfl, HB0.out⟩
set_option maxHeartbeats 4000000 in
theorem one_1 (vs : List Int) (t : TD) (vl : List Int) (bl : List Bool) (sv sl sb : Value) (ht : t.wf) (hok : okF t = true) (huv : ∀ v ∈ vs, U64 v) (hul : ∀ v ∈ vl, U64 v) (hlen : bl.length = vl.length) (hfew : vl.length ≤ 4000) (hfv : vs.length ≤ 4000) (hp : ∀ k ∈ prtL t, 0 ≤ k ∧ k < (vl.length : Int)) (n0 : t.kind = 1) (w : World) (hvs : WordsAt w sv vs) (hvl : WordsAt w sl vl) (hbl : FlagsAt w sb bl) :
    Calls Tryz.prog 28 #[termV t, sv, sl, sb] w fun e w' => OneQ vs t vl bl e ∧ Below w.heap.size w w' := by
  have HX0 := hide (Blk.new w 67 t.cells.toArray)
  have HB0 := hide (bl_alloc' w (.cells t.cells.toArray 67))
  have HVS := hide (hvs.below HB0.out)
  have HVL := hide (hvl.below HB0.out)
  have HBL := hide (hbl.below HB0.out)
  have HOK := hide hok
  have HTW := hide ht
  have HUV := hide huv
  have HUL := hide hul
  obtain ⟨r, hr⟩ : ∃ r, oneP vs t (fun k => vl.getD k.toNat 0) (fun k => bl.getD k.toNat false) = r := ⟨_, rfl⟩
  unfold OneQ
  rw [hr]
  unfold oneP at hr
  dsimp only at hr
  rw [if_neg (by omega), if_pos n0] at hr
  have htn := ht.2.2.2.1
  unfold U64 at htn
  clear hvs hvl hbl
  obtain ⟨m, hm⟩ : ∃ m, vs.length = m := ⟨_, rfl⟩
  have hwm : IntKind.u64.wrap (m : Int) = (m : Int) := by rw [IntKind.wrap_u64]; omega
  rw [hm] at hr
  by_cases hlt : (m : Int) ≤ t.n
  · rw [if_pos hlt] at hr
    subst hr
    obtain ⟨A, c, rfl, hc, _⟩ := HVS.out
    rw [hm] at hc ⊢
    unfold termV
    go_enter Tryz.func28, Tryz.ntmps28
    go_upto_region 1 with fail
    generalize w.alloc (.cells t.cells.toArray 67) = w1 at HX0 HB0 HVS HVL HBL  ⊢
    obtain ⟨bx, hbx⟩ : ∃ b, w.heap.size = b := ⟨_, rfl⟩
    rw [hbx] at HX0 ⊢
    have q0 := HX0.out.cell 0
    have q3 := HX0.out.cell 3
    simp [TD.cells] at q0 q3
    go_wp2
    exact bodyPost_ret (v := .tuple #[.int .u64 0, .bool false]) (by simp [results, Tryz.results28, go_sem]) rfl ⟨rfl, HB0.out⟩
  · rw [if_neg hlt] at hr
    subst hr
    obtain ⟨ad, c, j, rfl, hc, hj, hjl, hcv⟩ := HVS.out.at_ (k := t.n) htn.1 (by omega)
    have HW0 := hide (getD_u64 huv t.n.toNat)
    generalize vs.getD t.n.toNat 0 = x at hcv HW0 ⊢
    rw [hm] at hc hjl ⊢
    have HJ := hide hj
    have hjc : j < c := by omega
    have hcl : ∀ w' : World, Calls Tryz.prog 78 #[.int .u64 x, .int .i8 t.w] w' fun e w'' => e = .returned (.int .u64 (cutV t.w x)) ∧ w'' = w' := fun w' => (rcut_any x t.w HW0.out w').mono fun _ _ q => ⟨q.1, q.2.symm⟩
    have HCL := hide hcl
    clear hcl
    unfold termV
    go_enter Tryz.func28, Tryz.ntmps28
    go_upto_region 1 with fail
    generalize w.alloc (.cells t.cells.toArray 67) = w1 at HX0 HB0 HVS HVL HBL hcv ⊢
    obtain ⟨bx, hbx⟩ : ∃ b, w.heap.size = b := ⟨_, rfl⟩
    rw [hbx] at HX0 ⊢
    have q0 := HX0.out.cell 0
    have q2 := HX0.out.cell 2
    have q3 := HX0.out.cell 3
    simp [TD.cells] at q0 q2 q3
    rw [hj] at q3
    have hnl : decide ((m : Int) ≤ (j : Int)) = false := by simp; omega
    go_wp2
    go_quiet ((go_at_call 78; refine Calls.quiet_of_same (HCL.out _)))
    go_wp2
    exact bodyPost_ret (v := .tuple #[.int .u64 (cutV t.w x), .bool true]) (by simp [results, Tryz.results28, go_sem]) rfl ⟨rfl, HB0.out.trans ((below_drewN (Below.refl _ _) nq).mono HB0.out.size)⟩
set_option maxHeartbeats 4000000 in
theorem one_3 (vs : List Int) (t : TD) (vl : List Int) (bl : List Bool) (sv sl sb : Value) (ht : t.wf) (hok : okF t = true) (huv : ∀ v ∈ vs, U64 v) (hul : ∀ v ∈ vl, U64 v) (hlen : bl.length = vl.length) (hfew : vl.length ≤ 4000) (hfv : vs.length ≤ 4000) (hp : ∀ k ∈ prtL t, 0 ≤ k ∧ k < (vl.length : Int)) (n0 : t.kind = 3) (w : World) (hvs : WordsAt w sv vs) (hvl : WordsAt w sl vl) (hbl : FlagsAt w sb bl) :
    Calls Tryz.prog 28 #[termV t, sv, sl, sb] w fun e w' => OneQ vs t vl bl e ∧ Below w.heap.size w w' := by
  have HX0 := hide (Blk.new w 67 t.cells.toArray)
  have HB0 := hide (bl_alloc' w (.cells t.cells.toArray 67))
  have HVS := hide (hvs.below HB0.out)
  have HVL := hide (hvl.below HB0.out)
  have HBL := hide (hbl.below HB0.out)
  have HOK := hide hok
  have HTW := hide ht
  have HUV := hide huv
  have HUL := hide hul
  obtain ⟨r, hr⟩ : ∃ r, oneP vs t (fun k => vl.getD k.toNat 0) (fun k => bl.getD k.toNat false) = r := ⟨_, rfl⟩
  unfold OneQ
  rw [hr]
  unfold oneP at hr
  dsimp only at hr
  rw [if_neg (by omega), if_neg (by omega), if_pos n0] at hr
  have hpa := hp t.a (by unfold prtL; simp [n0])
  obtain ⟨adxa, cxa, ja, exa, hcxa, hja, hla, hxa⟩ := HVL.out.at_ hpa.1 hpa.2
  obtain ⟨adba, cba, ka, eba, hcba, hka, hlba, hba⟩ := HBL.out.at_ (k := t.a) hpa.1 (by rw [hlen]; exact hpa.2)
  obtain rfl : ja = ka := by omega
  have HWa := hide (getD_u64 hul t.a.toNat)
  generalize vl.getD t.a.toNat 0 = xa at hxa HWa hr
  generalize bl.getD t.a.toNat false = ba at hba hr
  subst exa eba
  obtain ⟨m, hm⟩ : ∃ m, vl.length = m := ⟨_, rfl⟩
  rw [hlen] at hcba hlba ⊢
  rw [hm] at hcxa hla hcba hlba ⊢
  have hjxa : ja < cxa := by omega
  have hjba : ja < cba := by omega
  have HJa := hide hja
  clear hpa hvs hvl hbl hp hul huv
  subst hr
  have HCL := hide (fun w' : World => (rcut_any xa t.w HWa.out w').mono fun _ _ q => (⟨q.1, q.2.symm⟩ : _ ∧ _ = _))
  unfold termV
  go_enter Tryz.func28, Tryz.ntmps28
  go_upto_region 1 with fail
  generalize w.alloc (.cells t.cells.toArray 67) = w1 at HX0 HB0 HVS HVL HBL hxa hba ⊢
  obtain ⟨bx, hbx⟩ : ∃ b, w.heap.size = b := ⟨_, rfl⟩
  rw [hbx] at HX0 ⊢
  have q0 := HX0.out.cell 0
  have q2 := HX0.out.cell 2
  have q4 := HX0.out.cell 4
  simp [TD.cells] at q0 q2 q4
  rw [hja] at q4
  go_wp2
  go_quiet ((go_at_call 78; refine Calls.quiet_of_same (HCL.out _)))
  go_wp2
  exact bodyPost_ret (v := .tuple #[.int .u64 (cutV t.w xa), .bool (!ba)]) (by simp [results, Tryz.results28, go_sem]) rfl ⟨rfl, HB0.out.trans ((below_drewN (Below.refl _ _) nq).mono HB0.out.size)⟩
set_option maxHeartbeats 4000000 in
theorem one_2 (vs : List Int) (t : TD) (vl : List Int) (bl : List Bool) (sv sl sb : Value) (ht : t.wf) (hok : okF t = true) (huv : ∀ v ∈ vs, U64 v) (hul : ∀ v ∈ vl, U64 v) (hlen : bl.length = vl.length) (hfew : vl.length ≤ 4000) (hfv : vs.length ≤ 4000) (hp : ∀ k ∈ prtL t, 0 ≤ k ∧ k < (vl.length : Int)) (n0 : t.kind = 2) (w : World) (hvs : WordsAt w sv vs) (hvl : WordsAt w sl vl) (hbl : FlagsAt w sb bl) :
    Calls Tryz.prog 28 #[termV t, sv, sl, sb] w fun e w' => OneQ vs t vl bl e ∧ Below w.heap.size w w' := by
  have HX0 := hide (Blk.new w 67 t.cells.toArray)
  have HB0 := hide (bl_alloc' w (.cells t.cells.toArray 67))
  have HVS := hide (hvs.below HB0.out)
  have HVL := hide (hvl.below HB0.out)
  have HBL := hide (hbl.below HB0.out)
  have HOK := hide hok
  have HTW := hide ht
  have HUV := hide huv
  have HUL := hide hul
  obtain ⟨r, hr⟩ : ∃ r, oneP vs t (fun k => vl.getD k.toNat 0) (fun k => bl.getD k.toNat false) = r := ⟨_, rfl⟩
  unfold OneQ
  rw [hr]
  unfold oneP at hr
  dsimp only at hr
  rw [if_neg (by omega), if_neg (by omega), if_neg (by omega), if_pos n0] at hr
  have hpa := hp t.a (by unfold prtL; simp [n0])
  obtain ⟨adxa, cxa, ja, exa, hcxa, hja, hla, hxa⟩ := HVL.out.at_ hpa.1 hpa.2
  obtain ⟨adba, cba, ka, eba, hcba, hka, hlba, hba⟩ := HBL.out.at_ (k := t.a) hpa.1 (by rw [hlen]; exact hpa.2)
  obtain rfl : ja = ka := by omega
  have HWa := hide (getD_u64 hul t.a.toNat)
  generalize vl.getD t.a.toNat 0 = xa at hxa HWa hr
  generalize bl.getD t.a.toNat false = ba at hba hr
  have hpb := hp t.b (by unfold prtL; simp [n0])
  obtain ⟨adxb, cxb, jb, exb, hcxb, hjb, hlb, hxb⟩ := HVL.out.at_ hpb.1 hpb.2
  obtain ⟨adbb, cbb, kb, ebb, hcbb, hkb, hlbb, hbb⟩ := HBL.out.at_ (k := t.b) hpb.1 (by rw [hlen]; exact hpb.2)
  obtain rfl : jb = kb := by omega
  have HWb := hide (getD_u64 hul t.b.toNat)
  generalize vl.getD t.b.toNat 0 = xb at hxb HWb hr
  generalize bl.getD t.b.toNat false = bb at hbb hr
  subst exa eba
  injection exb with e1 e2 e3
  injection e1 with e1
  subst e1 e3
  injection ebb with e1 e2 e3
  injection e1 with e1
  subst e1 e3
  clear e2
  obtain ⟨m, hm⟩ : ∃ m, vl.length = m := ⟨_, rfl⟩
  rw [hlen] at hcba hlba hcbb hlbb ⊢
  rw [hm] at hcxa hla hcxb hlb hcba hlba hcbb hlbb ⊢
  have hjxa : ja < cxa := by omega
  have hjba : ja < cba := by omega
  have HJa := hide hja
  have hjxb : jb < cxa := by omega
  have hjbb : jb < cba := by omega
  have HJb := hide hjb
  clear hpa hpb hvs hvl hbl hp hul huv
  subst hr
  have HCL := hide (fun w' : World => (rdo_yes xa xb HWa.out HWb.out w' (okF_do hok n0)).mono fun _ _ q => (⟨q.1, q.2.symm⟩ : _ ∧ _ = _))
  obtain ⟨dv, hdv⟩ : ∃ v, doU t.op t.w xa xb = v := ⟨_, rfl⟩
  rw [hdv] at HCL ⊢
  clear hdv
  unfold termV
  go_enter Tryz.func28, Tryz.ntmps28
  go_upto_region 1 with fail
  generalize w.alloc (.cells t.cells.toArray 67) = w1 at HX0 HB0 HVS HVL HBL hxa hba hxb hbb ⊢
  obtain ⟨bx, hbx⟩ : ∃ b, w.heap.size = b := ⟨_, rfl⟩
  rw [hbx] at HX0 ⊢
  have q0 := HX0.out.cell 0
  have q1 := HX0.out.cell 1
  have q2 := HX0.out.cell 2
  have q4 := HX0.out.cell 4
  have q5 := HX0.out.cell 5
  simp [TD.cells] at q0 q1 q2 q4 q5
  rw [hja] at q4
  rw [hjb] at q5
  go_upto_region 11 with fail
  go_quiet ((go_at_call 74; refine Calls.quiet_of_same (HCL.out _)))
  have HB2 := hide (HB0.out.trans ((below_drewN (Below.refl _ _) nq).mono HB0.out.size))
  have HX2 := hide (HX0.out.below (below_drewN (Below.refl _ _) nq) HX0.out.lt)
  have yba : (w1.drewN nq).cell? (adba.add ja) = some (.bool ba) := hba
  have ybb : (w1.drewN nq).cell? (adba.add jb) = some (.bool bb) := hbb
  generalize w1.drewN nq = w2 at HB2 HX2 yba ybb ⊢
  clear q0 q1 q2 q4 q5 hba hxa hbb hxb
  have q4 := HX2.out.cell 4
  have q5 := HX2.out.cell 5
  simp [TD.cells] at q4 q5
  rw [hja] at q4
  rw [hjb] at q5
  cases ba
  · cases bb
    · go_wp2
      go_quiet (fail)
      go_wp2
      exact bodyPost_ret (v := .tuple #[.int .u64 dv, .bool (!false && !false)]) (by simp [results, Tryz.results28, go_sem]) rfl ⟨rfl, HB2.out.trans ((below_drewN (Below.refl _ _) nq).mono HB2.out.size)⟩
    · go_wp2
      go_quiet (fail)
      go_wp2
      exact bodyPost_ret (v := .tuple #[.int .u64 dv, .bool (!false && !true)]) (by simp [results, Tryz.results28, go_sem]) rfl ⟨rfl, HB2.out.trans ((below_drewN (Below.refl _ _) nq).mono HB2.out.size)⟩
  · go_wp2
    go_quiet (fail)
    go_wp2
    exact bodyPost_ret (v := .tuple #[.int .u64 dv, .bool (!true && !bb)]) (by simp [results, Tryz.results28, go_sem]) rfl ⟨rfl, HB2.out.trans ((below_drewN (Below.refl _ _) nq).mono HB2.out.size)⟩
set_option maxHeartbeats 4000000 in
theorem one_4 (vs : List Int) (t : TD) (vl : List Int) (bl : List Bool) (sv sl sb : Value) (ht : t.wf) (hok : okF t = true) (huv : ∀ v ∈ vs, U64 v) (hul : ∀ v ∈ vl, U64 v) (hlen : bl.length = vl.length) (hfew : vl.length ≤ 4000) (hfv : vs.length ≤ 4000) (hp : ∀ k ∈ prtL t, 0 ≤ k ∧ k < (vl.length : Int)) (n0 : t.kind = 4) (w : World) (hvs : WordsAt w sv vs) (hvl : WordsAt w sl vl) (hbl : FlagsAt w sb bl) :
    Calls Tryz.prog 28 #[termV t, sv, sl, sb] w fun e w' => OneQ vs t vl bl e ∧ Below w.heap.size w w' := by
  have HX0 := hide (Blk.new w 67 t.cells.toArray)
  have HB0 := hide (bl_alloc' w (.cells t.cells.toArray 67))
  have HVS := hide (hvs.below HB0.out)
  have HVL := hide (hvl.below HB0.out)
  have HBL := hide (hbl.below HB0.out)
  have HOK := hide hok
  have HTW := hide ht
  have HUV := hide huv
  have HUL := hide hul
  obtain ⟨r, hr⟩ : ∃ r, oneP vs t (fun k => vl.getD k.toNat 0) (fun k => bl.getD k.toNat false) = r := ⟨_, rfl⟩
  unfold OneQ
  rw [hr]
  unfold oneP at hr
  dsimp only at hr
  rw [if_neg (by omega), if_neg (by omega), if_neg (by omega), if_neg (by omega), if_pos n0] at hr
  have hpa := hp t.a (by unfold prtL; simp [n0])
  obtain ⟨adxa, cxa, ja, exa, hcxa, hja, hla, hxa⟩ := HVL.out.at_ hpa.1 hpa.2
  obtain ⟨adba, cba, ka, eba, hcba, hka, hlba, hba⟩ := HBL.out.at_ (k := t.a) hpa.1 (by rw [hlen]; exact hpa.2)
  obtain rfl : ja = ka := by omega
  have HWa := hide (getD_u64 hul t.a.toNat)
  generalize vl.getD t.a.toNat 0 = xa at hxa HWa hr
  generalize bl.getD t.a.toNat false = ba at hba hr
  have hpb := hp t.b (by unfold prtL; simp [n0])
  obtain ⟨adxb, cxb, jb, exb, hcxb, hjb, hlb, hxb⟩ := HVL.out.at_ hpb.1 hpb.2
  obtain ⟨adbb, cbb, kb, ebb, hcbb, hkb, hlbb, hbb⟩ := HBL.out.at_ (k := t.b) hpb.1 (by rw [hlen]; exact hpb.2)
  obtain rfl : jb = kb := by omega
  have HWb := hide (getD_u64 hul t.b.toNat)
  generalize vl.getD t.b.toNat 0 = xb at hxb HWb hr
  generalize bl.getD t.b.toNat false = bb at hbb hr
  subst exa eba
  injection exb with e1 e2 e3
  injection e1 with e1
  subst e1 e3
  injection ebb with e1 e2 e3
  injection e1 with e1
  subst e1 e3
  clear e2
  obtain ⟨m, hm⟩ : ∃ m, vl.length = m := ⟨_, rfl⟩
  rw [hlen] at hcba hlba hcbb hlbb ⊢
  rw [hm] at hcxa hla hcxb hlb hcba hlba hcbb hlbb ⊢
  have hjxa : ja < cxa := by omega
  have hjba : ja < cba := by omega
  have HJa := hide hja
  have hjxb : jb < cxa := by omega
  have hjbb : jb < cba := by omega
  have HJb := hide hjb
  clear hpa hpb hvs hvl hbl hp hul huv
  subst hr
  have HCL := hide (fun w' : World => (rholds_yes xa xb HWa.out HWb.out w' (okF_holds hok n0)).mono fun _ _ q => (⟨q.1, q.2.symm⟩ : _ ∧ _ = _))
  obtain ⟨dv, hdv⟩ : ∃ v, holdsU t.op t.w xa xb = v := ⟨_, rfl⟩
  rw [hdv] at HCL ⊢
  clear hdv
  have HFL := hide (fun w' : World => (flag_r dv w').mono fun _ _ q => (⟨q.1, q.2.symm⟩ : _ ∧ _ = _))
  obtain ⟨fv, hfv⟩ : ∃ v, flagV dv = v := ⟨_, rfl⟩
  rw [show (if dv = true then (1 : Int) else 0) = fv from hfv] at HFL
  rw [hfv]
  clear hfv
  unfold termV
  go_enter Tryz.func28, Tryz.ntmps28
  go_upto_region 1 with fail
  generalize w.alloc (.cells t.cells.toArray 67) = w1 at HX0 HB0 HVS HVL HBL hxa hba hxb hbb ⊢
  obtain ⟨bx, hbx⟩ : ∃ b, w.heap.size = b := ⟨_, rfl⟩
  rw [hbx] at HX0 ⊢
  have q0 := HX0.out.cell 0
  have q1 := HX0.out.cell 1
  have q2 := HX0.out.cell 2
  have q4 := HX0.out.cell 4
  have q5 := HX0.out.cell 5
  simp [TD.cells] at q0 q1 q2 q4 q5
  rw [hja] at q4
  rw [hjb] at q5
  go_upto_region 14 with fail
  go_quiet ((go_at_call 81; refine Calls.quiet_of_same (HCL.out _)))
  have HB2 := hide (HB0.out.trans ((below_drewN (Below.refl _ _) nq).mono HB0.out.size))
  have HX2 := hide (HX0.out.below (below_drewN (Below.refl _ _) nq) HX0.out.lt)
  have yba : (w1.drewN nq).cell? (adba.add ja) = some (.bool ba) := hba
  have ybb : (w1.drewN nq).cell? (adba.add jb) = some (.bool bb) := hbb
  generalize w1.drewN nq = w2 at HB2 HX2 yba ybb ⊢
  clear q0 q1 q2 q4 q5 hba hxa hbb hxb
  have q4 := HX2.out.cell 4
  have q5 := HX2.out.cell 5
  simp [TD.cells] at q4 q5
  rw [hja] at q4
  rw [hjb] at q5
  cases ba
  · cases bb
    · go_wp2
      go_quiet ((go_at_call 82; refine Calls.quiet_of_same (HFL.out _)))
      go_wp2
      exact bodyPost_ret (v := .tuple #[.int .u64 fv, .bool (!false && !false)]) (by simp [results, Tryz.results28, go_sem]) rfl ⟨rfl, HB2.out.trans ((below_drewN (Below.refl _ _) nq).mono HB2.out.size)⟩
    · go_wp2
      go_quiet ((go_at_call 82; refine Calls.quiet_of_same (HFL.out _)))
      go_wp2
      exact bodyPost_ret (v := .tuple #[.int .u64 fv, .bool (!false && !true)]) (by simp [results, Tryz.results28, go_sem]) rfl ⟨rfl, HB2.out.trans ((below_drewN (Below.refl _ _) nq).mono HB2.out.size)⟩
  · go_wp2
    go_quiet ((go_at_call 82; refine Calls.quiet_of_same (HFL.out _)))
    go_wp2
    exact bodyPost_ret (v := .tuple #[.int .u64 fv, .bool (!true && !bb)]) (by simp [results, Tryz.results28, go_sem]) rfl ⟨rfl, HB2.out.trans ((below_drewN (Below.refl _ _) nq).mono HB2.out.size)⟩
set_option maxHeartbeats 4000000 in
theorem one_5 (vs : List Int) (t : TD) (vl : List Int) (bl : List Bool) (sv sl sb : Value) (ht : t.wf) (hok : okF t = true) (huv : ∀ v ∈ vs, U64 v) (hul : ∀ v ∈ vl, U64 v) (hlen : bl.length = vl.length) (hfew : vl.length ≤ 4000) (hfv : vs.length ≤ 4000) (hp : ∀ k ∈ prtL t, 0 ≤ k ∧ k < (vl.length : Int)) (n0 : t.kind = 5) (w : World) (hvs : WordsAt w sv vs) (hvl : WordsAt w sl vl) (hbl : FlagsAt w sb bl) :
    Calls Tryz.prog 28 #[termV t, sv, sl, sb] w fun e w' => OneQ vs t vl bl e ∧ Below w.heap.size w w' := by
  have HX0 := hide (Blk.new w 67 t.cells.toArray)
  have HB0 := hide (bl_alloc' w (.cells t.cells.toArray 67))
  have HVS := hide (hvs.below HB0.out)
  have HVL := hide (hvl.below HB0.out)
  have HBL := hide (hbl.below HB0.out)
  have HOK := hide hok
  have HTW := hide ht
  have HUV := hide huv
  have HUL := hide hul
  obtain ⟨r, hr⟩ : ∃ r, oneP vs t (fun k => vl.getD k.toNat 0) (fun k => bl.getD k.toNat false) = r := ⟨_, rfl⟩
  unfold OneQ
  rw [hr]
  unfold oneP at hr
  dsimp only at hr
  rw [if_neg (by omega), if_neg (by omega), if_neg (by omega), if_neg (by omega), if_neg (by omega)] at hr
  have hpa := hp t.a (by unfold prtL; simp [n0])
  obtain ⟨adxa, cxa, ja, exa, hcxa, hja, hla, hxa⟩ := HVL.out.at_ hpa.1 hpa.2
  obtain ⟨adba, cba, ka, eba, hcba, hka, hlba, hba⟩ := HBL.out.at_ (k := t.a) hpa.1 (by rw [hlen]; exact hpa.2)
  obtain rfl : ja = ka := by omega
  have HWa := hide (getD_u64 hul t.a.toNat)
  generalize vl.getD t.a.toNat 0 = xa at hxa HWa hr
  generalize bl.getD t.a.toNat false = ba at hba hr
  have hpb := hp t.b (by unfold prtL; simp [n0])
  obtain ⟨adxb, cxb, jb, exb, hcxb, hjb, hlb, hxb⟩ := HVL.out.at_ hpb.1 hpb.2
  obtain ⟨adbb, cbb, kb, ebb, hcbb, hkb, hlbb, hbb⟩ := HBL.out.at_ (k := t.b) hpb.1 (by rw [hlen]; exact hpb.2)
  obtain rfl : jb = kb := by omega
  have HWb := hide (getD_u64 hul t.b.toNat)
  generalize vl.getD t.b.toNat 0 = xb at hxb HWb hr
  generalize bl.getD t.b.toNat false = bb at hbb hr
  have hpc := hp t.c (by unfold prtL; simp [n0])
  obtain ⟨adxc, cxc, jc, exc, hcxc, hjc, hlc, hxc⟩ := HVL.out.at_ hpc.1 hpc.2
  obtain ⟨adbc, cbc, kc, ebc, hcbc, hkc, hlbc, hbc⟩ := HBL.out.at_ (k := t.c) hpc.1 (by rw [hlen]; exact hpc.2)
  obtain rfl : jc = kc := by omega
  have HWc := hide (getD_u64 hul t.c.toNat)
  generalize vl.getD t.c.toNat 0 = xc at hxc HWc hr
  generalize bl.getD t.c.toNat false = bc at hbc hr
  subst exa eba
  injection exb with e1 e2 e3
  injection e1 with e1
  subst e1 e3
  injection ebb with e1 e2 e3
  injection e1 with e1
  subst e1 e3
  clear e2
  injection exc with e1 e2 e3
  injection e1 with e1
  subst e1 e3
  injection ebc with e1 e2 e3
  injection e1 with e1
  subst e1 e3
  clear e2
  obtain ⟨m, hm⟩ : ∃ m, vl.length = m := ⟨_, rfl⟩
  rw [hlen] at hcba hlba hcbb hlbb hcbc hlbc ⊢
  rw [hm] at hcxa hla hcxb hlb hcxc hlc hcba hlba hcbb hlbb hcbc hlbc ⊢
  have hjxa : ja < cxa := by omega
  have hjba : ja < cba := by omega
  have HJa := hide hja
  have hjxb : jb < cxa := by omega
  have hjbb : jb < cba := by omega
  have HJb := hide hjb
  have hjxc : jc < cxa := by omega
  have hjbc : jc < cba := by omega
  have HJc := hide hjc
  clear hpa hpb hpc hvs hvl hbl hp hul huv
  cases hxz : (xa != 0)
  · have hz : (xa == 0) = true := by simpa using hxz
    rw [hz, cond_true] at hr
    subst hr
    unfold termV
    go_enter Tryz.func28, Tryz.ntmps28
    go_upto_region 1 with fail
    generalize w.alloc (.cells t.cells.toArray 67) = w1 at HX0 HB0 HVS HVL HBL hxa hba hxb hbb hxc hbc ⊢
    obtain ⟨bx, hbx⟩ : ∃ b, w.heap.size = b := ⟨_, rfl⟩
    rw [hbx] at HX0 ⊢
    have q0 := HX0.out.cell 0
    have q4 := HX0.out.cell 4
    have q5 := HX0.out.cell 5
    have q6 := HX0.out.cell 6
    simp [TD.cells] at q0 q4 q5 q6
    rw [hja] at q4
    rw [hjb] at q5
    rw [hjc] at q6
    cases ba
    · cases bb
      · cases bc
        · go_wp2
          go_quiet (fail)
          go_wp2
          exact bodyPost_ret (v := .tuple #[.int .u64 xc, .bool (!false && !false && !false)]) (by simp [results, Tryz.results28, go_sem]) rfl ⟨rfl, HB0.out.trans ((below_drewN (Below.refl _ _) nq).mono HB0.out.size)⟩
        · go_wp2
          go_quiet (fail)
          go_wp2
          exact bodyPost_ret (v := .tuple #[.int .u64 xc, .bool (!false && !false && !true)]) (by simp [results, Tryz.results28, go_sem]) rfl ⟨rfl, HB0.out.trans ((below_drewN (Below.refl _ _) nq).mono HB0.out.size)⟩
      · go_wp2
        go_quiet (fail)
        go_wp2
        exact bodyPost_ret (v := .tuple #[.int .u64 xc, .bool (!false && !true && !bc)]) (by simp [results, Tryz.results28, go_sem]) rfl ⟨rfl, HB0.out.trans ((below_drewN (Below.refl _ _) nq).mono HB0.out.size)⟩
    · go_wp2
      go_quiet (fail)
      go_wp2
      exact bodyPost_ret (v := .tuple #[.int .u64 xc, .bool (!true && !bb && !bc)]) (by simp [results, Tryz.results28, go_sem]) rfl ⟨rfl, HB0.out.trans ((below_drewN (Below.refl _ _) nq).mono HB0.out.size)⟩
  · have hz : (xa == 0) = false := by simpa using hxz
    rw [hz, cond_false] at hr
    subst hr
    unfold termV
    go_enter Tryz.func28, Tryz.ntmps28
    go_upto_region 1 with fail
    generalize w.alloc (.cells t.cells.toArray 67) = w1 at HX0 HB0 HVS HVL HBL hxa hba hxb hbb hxc hbc ⊢
    obtain ⟨bx, hbx⟩ : ∃ b, w.heap.size = b := ⟨_, rfl⟩
    rw [hbx] at HX0 ⊢
    have q0 := HX0.out.cell 0
    have q4 := HX0.out.cell 4
    have q5 := HX0.out.cell 5
    have q6 := HX0.out.cell 6
    simp [TD.cells] at q0 q4 q5 q6
    rw [hja] at q4
    rw [hjb] at q5
    rw [hjc] at q6
    cases ba
    · cases bb
      · cases bc
        · go_wp2
          go_quiet (fail)
          go_wp2
          exact bodyPost_ret (v := .tuple #[.int .u64 xb, .bool (!false && !false && !false)]) (by simp [results, Tryz.results28, go_sem]) rfl ⟨rfl, HB0.out.trans ((below_drewN (Below.refl _ _) nq).mono HB0.out.size)⟩
        · go_wp2
          go_quiet (fail)
          go_wp2
          exact bodyPost_ret (v := .tuple #[.int .u64 xb, .bool (!false && !false && !true)]) (by simp [results, Tryz.results28, go_sem]) rfl ⟨rfl, HB0.out.trans ((below_drewN (Below.refl _ _) nq).mono HB0.out.size)⟩
      · go_wp2
        go_quiet (fail)
        go_wp2
        exact bodyPost_ret (v := .tuple #[.int .u64 xb, .bool (!false && !true && !bc)]) (by simp [results, Tryz.results28, go_sem]) rfl ⟨rfl, HB0.out.trans ((below_drewN (Below.refl _ _) nq).mono HB0.out.size)⟩
    · go_wp2
      go_quiet (fail)
      go_wp2
      exact bodyPost_ret (v := .tuple #[.int .u64 xb, .bool (!true && !bb && !bc)]) (by simp [results, Tryz.results28, go_sem]) rfl ⟨rfl, HB0.out.trans ((below_drewN (Below.refl _ _) nq).mono HB0.out.size)⟩
end Go.Proofs.YtfjflefgclfbfaaGreat
end
section
namespace Go.Proofs.YtfjflefgclfbfaaGreat
open Go.RowKit
set_option linter.unusedVariables false
set_option linter.unusedSimpArgs false
set_option maxRecDepth 100000
theorem infU64 : (Tryz.prog.info? 31).map (fun i => (i.zero, i.size, i.bytes)) = some (some (.int .u64 0), 1, 8) := by kernel_rfl
theorem infBool : (Tryz.prog.info? 4).map (fun i => (i.zero, i.size, i.bytes)) = some (some (.bool false), 1, 1) := by kernel_rfl
theorem one_bool {b : Bool} : ∀ u ∈ [Value.bool b], u.oneCell' = true := by intro u hu; simp at hu; subst hu; rfl
theorem one_any (vs : List Int) (t : TD) (vl : List Int) (bl : List Bool) (sv sl sb : Value) (ht : t.wf) (hok : okF t = true) (huv : ∀ v ∈ vs, U64 v) (hul : ∀ v ∈ vl, U64 v) (hlen : bl.length = vl.length) (hfew : vl.length ≤ 4000) (hfv : vs.length ≤ 4000) (hp : ∀ k ∈ prtL t, 0 ≤ k ∧ k < (vl.length : Int)) (w : World) (hvs : WordsAt w sv vs) (hvl : WordsAt w sl vl) (hbl : FlagsAt w sb bl) :
    Calls Tryz.prog 28 #[termV t, sv, sl, sb] w fun e w' => OneQ vs t vl bl e ∧ Below w.heap.size w w' := by
  have hk : t.kind = 0 ∨ t.kind = 1 ∨ t.kind = 2 ∨ t.kind = 3 ∨ t.kind = 4 ∨ t.kind = 5 := by
    unfold okF askT at hok
    by_cases k0 : t.kind = 0
    · exact .inl k0
    by_cases k1 : t.kind = 1
    · exact .inr (.inl k1)
    by_cases k2 : t.kind = 2
    · exact .inr (.inr (.inl k2))
    by_cases k4 : t.kind = 4
    · exact .inr (.inr (.inr (.inr (.inl k4))))
    by_cases k3 : t.kind = 3
    · exact .inr (.inr (.inr (.inl k3)))
    rw [if_neg k0, if_neg k1, if_neg k2, if_neg k4, if_neg k3] at hok
    simp at hok
    exact .inr (.inr (.inr (.inr (.inr hok.1))))
  rcases hk with k | k | k | k | k | k
  · exact one_0 vs t vl bl sv sl sb ht hok huv hul hlen hfew hfv hp k w hvs hvl hbl
  · exact one_1 vs t vl bl sv sl sb ht hok huv hul hlen hfew hfv hp k w hvs hvl hbl
  · exact one_2 vs t vl bl sv sl sb ht hok huv hul hlen hfew hfv hp k w hvs hvl hbl
  · exact one_3 vs t vl bl sv sl sb ht hok huv hul hlen hfew hfv hp k w hvs hvl hbl
  · exact one_4 vs t vl bl sv sl sb ht hok huv hul hlen hfew hfv hp k w hvs hvl hbl
  · exact one_5 vs t vl bl sv sl sb ht hok huv hul hlen hfew hfv hp k w hvs hvl hbl
/-- What the rows hold of the first terms. -/
structure EvI (T : List TD) (vs vl : List Int) (bl : List Bool) (k : Nat) : Prop where
  lv : vl.length = k
  lb : bl.length = k
  u : ∀ v ∈ vl, U64 v
  b : ∀ j : Nat, j < k → bl.getD j false = (evP T vs (j : Int)).isNone
  v : ∀ (j : Nat) (x : Int), j < k → evP T vs (j : Int) = some x → vl.getD j 0 = x
theorem EvI.nil (T : List TD) (vs : List Int) : EvI T vs [] [] 0 := ⟨rfl, rfl, by simp, fun j h => by omega, fun j x h => by omega⟩
theorem one_ev {p : PS} (hw : WfP p) (hr : ∀ t ∈ p.T, t.wf) {vs vl : List Int} {bl : List Bool} {k : Nat} {t : TD} (hI : EvI p.T vs vl bl k) (huv : ∀ v ∈ vs, U64 v) (ht : p.T[k]? = some t) :
    (oneP vs t (fun k => vl.getD k.toNat 0) (fun k => bl.getD k.toNat false)).2 = (evP p.T vs (k : Int)).isSome ∧ (∀ x, evP p.T vs (k : Int) = some x → (oneP vs t (fun k => vl.getD k.toNat 0) (fun k => bl.getD k.toNat false)).1 = x) ∧ U64 (oneP vs t (fun k => vl.getD k.toNat 0) (fun k => bl.getD k.toNat false)).1 := by
  have hk : k < p.T.length := (List.getElem?_eq_some_iff.1 ht).1
  have hh : hasB p.T (k : Int) = true := by unfold hasB; simp; exact hk
  have ha : atP p.T (k : Int) = t := by
    unfold atP
    rw [if_pos hh, Int.toNat_natCast, List.getD_eq_getElem?_getD, ht]
    rfl
  have hok := hw.ok k t ht
  have hwf := hr t (List.mem_of_getElem? ht)
  have hpt := hw.part k t ht
  rw [evP_eq hw hh, ha]
  have V : ∀ i ∈ prtL t, ∃ j : Nat, i = (j : Int) ∧ j < k := fun i hi => ⟨i.toNat, by have := hpt i hi; omega, by have := hpt i hi; omega⟩
  have bb : ∀ i ∈ prtL t, bl.getD i.toNat false = (evP p.T vs i).isNone := fun i hi => by
    obtain ⟨j, rfl, hj⟩ := V i hi
    exact hI.b j hj
  have vv : ∀ i ∈ prtL t, ∀ x, evP p.T vs i = some x → vl.getD i.toNat 0 = x := fun i hi x hx => by
    obtain ⟨j, rfl, hj⟩ := V i hi
    exact hI.v j x hj hx
  have uu : ∀ i : Int, U64 (vl.getD i.toNat 0) := fun i => getD_u64 hI.u _
  unfold oneP evT
  dsimp only
  by_cases k0 : t.kind = 0
  · rw [if_pos k0, if_neg (by omega), if_neg (by omega), if_neg (by omega), if_neg (by omega), if_neg (by omega)]
    exact ⟨rfl, fun x hx => by injection hx, hwf.2.2.2.1⟩
  rw [if_neg k0]
  by_cases k1 : t.kind = 1
  · rw [if_pos k1, if_pos k1]
    have hn := hwf.2.2.2.1
    unfold U64 at hn
    by_cases hl : (vs.length : Int) ≤ t.n
    · rw [if_pos hl, List.getElem?_eq_none (by omega)]
      exact ⟨rfl, fun x hx => by simp at hx, zero_u64⟩
    · rw [if_neg hl, List.getElem?_eq_getElem (by omega), List.getD_eq_getElem?_getD, List.getElem?_eq_getElem (by omega)]
      exact ⟨rfl, fun x hx => by injection hx, cutV_u64 (huv _ (List.getElem_mem _))⟩
  rw [if_neg k1, if_neg k1]
  by_cases k3 : t.kind = 3
  · rw [if_pos k3, if_pos k3]
    have ma : t.a ∈ prtL t := by unfold prtL; simp [k3]
    rw [bb _ ma]
    refine ⟨by cases evP p.T vs t.a <;> rfl, fun x hx => ?_, cutV_u64 (uu _)⟩
    cases e : evP p.T vs t.a with
    | none => rw [e] at hx; simp at hx
    | some y =>
      rw [e] at hx
      injection hx with hx
      rw [vv _ ma y e, hx]
  rw [if_neg k3, if_neg k3]
  by_cases k2 : t.kind = 2
  · rw [if_pos k2, if_pos k2]
    have ma : t.a ∈ prtL t := by unfold prtL; simp [k2]
    have mb : t.b ∈ prtL t := by unfold prtL; simp [k2]
    rw [bb _ ma, bb _ mb]
    refine ⟨by cases evP p.T vs t.a <;> cases evP p.T vs t.b <;> rfl, fun x hx => ?_, doU_u64 (okF_do hok k2) (uu _) (uu _)⟩
    cases e : evP p.T vs t.a with
    | none => rw [e] at hx; simp at hx
    | some y =>
      cases e2 : evP p.T vs t.b with
      | none => rw [e, e2] at hx; simp at hx
      | some z =>
        rw [e, e2] at hx
        injection hx with hx
        rw [vv _ ma y e, vv _ mb z e2]
        exact hx
  rw [if_neg k2, if_neg k2]
  by_cases k4 : t.kind = 4
  · rw [if_pos k4, if_pos k4]
    have ma : t.a ∈ prtL t := by unfold prtL; simp [k4]
    have mb : t.b ∈ prtL t := by unfold prtL; simp [k4]
    rw [bb _ ma, bb _ mb]
    refine ⟨by cases evP p.T vs t.a <;> cases evP p.T vs t.b <;> rfl, fun x hx => ?_, flagV_u64 _⟩
    cases e : evP p.T vs t.a with
    | none => rw [e] at hx; simp at hx
    | some y =>
      cases e2 : evP p.T vs t.b with
      | none => rw [e, e2] at hx; simp at hx
      | some z =>
        rw [e, e2] at hx
        injection hx with hx
        rw [vv _ ma y e, vv _ mb z e2]
        exact hx
  rw [if_neg k4, if_neg k4]
  have k5 : t.kind = 5 := by
    unfold okF askT at hok
    rw [if_neg k0, if_neg k1, if_neg k2, if_neg k4, if_neg k3] at hok
    simp at hok
    exact hok.1
  rw [if_pos k5]
  have ma : t.a ∈ prtL t := by unfold prtL; simp [k5]
  have mb : t.b ∈ prtL t := by unfold prtL; simp [k5]
  have mc : t.c ∈ prtL t := by unfold prtL; simp [k5]
  rw [bb _ ma, bb _ mb, bb _ mc]
  refine ⟨by cases evP p.T vs t.a <;> cases evP p.T vs t.b <;> cases evP p.T vs t.c <;> rfl, fun x hx => ?_, by cases (vl.getD t.a.toNat 0 == 0) <;> exact uu _⟩
  cases e : evP p.T vs t.a with
  | none => rw [e] at hx; simp at hx
  | some y =>
    cases e2 : evP p.T vs t.b with
    | none => rw [e, e2] at hx; simp at hx
    | some z =>
      cases e3 : evP p.T vs t.c with
      | none => rw [e, e2, e3] at hx; simp at hx
      | some z' =>
        rw [e, e2, e3] at hx
        injection hx with hx
        rw [vv _ ma y e, vv _ mb z e2, vv _ mc z' e3, ← hx]
        show cond (y == 0) z' z = if y = 0 then z' else z
        by_cases hy : y = 0
        · rw [if_pos hy, hy]; rfl
        · rw [if_neg hy, show (y == 0) = false by simpa using hy]; rfl
theorem EvI.next {p : PS} (hw : WfP p) (hr : ∀ t ∈ p.T, t.wf) {vs vl : List Int} {bl : List Bool} {k : Nat} {t : TD} (hI : EvI p.T vs vl bl k) (huv : ∀ v ∈ vs, U64 v) (ht : p.T[k]? = some t) {x : Int} {ok : Bool} (h1 : (oneP vs t (fun k => vl.getD k.toNat 0) (fun k => bl.getD k.toNat false)).1 = x) (h2 : (oneP vs t (fun k => vl.getD k.toNat 0) (fun k => bl.getD k.toNat false)).2 = ok) :
    EvI p.T vs (vl ++ [x]) (bl ++ [!ok]) (k + 1) := by
  obtain ⟨e1, e2, e3⟩ := one_ev hw hr hI huv ht
  rw [h1] at e2 e3
  rw [h2] at e1
  refine ⟨by simp [hI.lv], by simp [hI.lb], fun v hv => ?_, fun j hj => ?_, fun j y hj hy => ?_⟩
  · rcases List.mem_append.1 hv with q | q
    · exact hI.u v q
    · simp at q; rw [q]; exact e3
  · rcases Nat.lt_or_ge j k with q | q
    · rw [List.getD_eq_getElem?_getD, List.getElem?_append_left (by rw [hI.lb]; exact q), ← List.getD_eq_getElem?_getD]
      exact hI.b j q
    · obtain rfl : j = k := by omega
      rw [List.getD_eq_getElem?_getD, List.getElem?_append_right (by rw [hI.lb]; exact Nat.le_refl _), hI.lb, e1]
      cases evP p.T vs (j : Int) <;> simp
  · rcases Nat.lt_or_ge j k with q | q
    · rw [List.getD_eq_getElem?_getD, List.getElem?_append_left (by rw [hI.lv]; exact q), ← List.getD_eq_getElem?_getD]
      exact hI.v j y q hy
    · obtain rfl : j = k := by omega
      rw [List.getD_eq_getElem?_getD, List.getElem?_append_right (by rw [hI.lv]; exact Nat.le_refl _), hI.lv, Nat.sub_self]
      exact e2 y hy
/-- What stands in Eval's loop: two rows of its own. -/
structure EvW (w : World) (k : Nat) (xv xb : Value) (vl : List Int) (bl : List Bool) (W : World) : Prop where
  below : Below w.heap.size w W
  rv : W.ownsRow w.heap.size 31 1 xv k (vl.map (Value.int .u64))
  rb : W.ownsRow w.heap.size 4 1 xb k (bl.map Value.bool)
/-- .. one of them longer. -/
structure EvP1 (w : World) (k1 k : Nat) (xv xb : Value) (xs ys : List Value) (W : World) : Prop where
  below : Below w.heap.size w W
  rv : W.ownsRow w.heap.size 31 1 xv k1 xs
  rb : W.ownsRow w.heap.size 4 1 xb k ys
section
variable {w W V : World} {k : Nat} {xv xb : Value} {vl : List Int} {bl : List Bool}
theorem EvW.step (h : EvW w k xv xb vl bl W) (hb : Below W.heap.size W V) : EvW w k xv xb vl bl V :=
  ⟨h.below.trans (hb.mono h.below.size), own_block h.rv fun r q => hb.block r (own_ge h.rv r q).2, own_block h.rb fun r q => hb.block r (own_ge h.rb r q).2⟩
theorem EvW.words (h : EvW w k xv xb vl bl W) (hl : vl.length = k) : WordsAt W xv vl := by
  obtain ⟨A, c, rfl, h4, h5⟩ := (RowL.of_own h.rv).slice
  exact ⟨A, c, by rw [hl], by rw [hl]; exact h4, by rw [hl]; exact h5⟩
theorem EvW.flags (h : EvW w k xv xb vl bl W) (hl : bl.length = k) : FlagsAt W xb bl := by
  obtain ⟨A, c, rfl, h4, h5⟩ := (RowL.of_own h.rb).slice
  exact ⟨A, c, by rw [hl], by rw [hl]; exact h4, by rw [hl]; exact h5⟩
end
section
variable {base g : Nat} {F : Nat → Prop} {p : PS}
set_option maxHeartbeats 8000000 in
theorem eval_r (n : Int) (vs : List Int) (sv : Value) (w : World) (h : RefAt w base F g p) (hvs : WordsAt w sv vs) (hfv : vs.length ≤ 4000) (huv : ∀ v ∈ vs, U64 v) :
    Calls Tryz.prog 10 #[.pointer (some ⟨g, 0, none⟩), .int .i64 n, sv] w fun e w' => e = .returned (.tuple #[.int .u64 (resV (evP p.T vs n)).1, .int .i64 (resV (evP p.T vs n)).2]) ∧ Below w.heap.size w w' := by
  obtain ⟨r, hr⟩ : ∃ r, evP p.T vs n = r := ⟨_, rfl⟩
  rw [hr]
  have HR := hide hr
  have HP := hide h
  have HVS := hide hvs
  have HUV := hide huv
  clear h hvs hr huv
  go_enter Tryz.func10, Tryz.ntmps10
  go_wp2_with fail
  refine (rget_at n _ HP.out).mono ?_
  rintro e w1 ⟨rfl, hb⟩
  have HB1 := hide hb
  clear hb
  obtain ⟨t0, ht0⟩ : ∃ t, atP p.T n = t := ⟨_, rfl⟩
  rw [ht0]
  obtain ⟨er, her⟩ : ∃ e : Int, (if hasB p.T n = true then 0 else 2) = e := ⟨_, rfl⟩
  rw [her]
  have HER := hide her
  clear her ht0
  go_upto_region 2 with (first
    | (refine wpList_store_new rfl 67 (.tmp 8) (.tmp 21) rfl _ t0.cells (termV t0) (by rfl) (by rfl) rfl sizT rfl (TD.one _) ?_
       intro w5 G5 L5 Z5
       have HB2 := hide (HB1.out.trans (L5.mono HB1.out.size))
       clear G5 L5 Z5)
    | fail)
  cases hn : hasB p.T n
  · have her : er = 2 := by rw [← HER.out, hn]; rfl
    have hno : r = none := by rw [← HR.out]; exact evP_no hn
    subst her hno
    go_wp2
    go_ret2
    exact ⟨rfl, HB2.out⟩
  have her : er = 0 := by rw [← HER.out, hn]; rfl
  subst her
  obtain ⟨m, rfl⟩ : ∃ m : Nat, n = m := ⟨n.toNat, by have := has_nat hn; omega⟩
  have hml : m < p.T.length := by unfold hasB at hn; simp at hn; exact hn
  have hfew := HP.out.few
  have HML := hide hml
  have hmf : m < 4000 := by omega
  have hE0 : Hid (EvW w 0 (.slice none 0 0) (.slice none 0 0) [] [] w5) := hide ⟨HB2.out, ⟨rfl, .inl ⟨rfl, rfl⟩⟩, ⟨rfl, .inl ⟨rfl, rfl⟩⟩⟩
  clear HER hn hml hfew
  obtain ⟨iU, hiU, hzU, hsU, hbU⟩ := info_parts infU64
  have IU := hide (And.intro hiU (And.intro hzU (And.intro hsU hbU)))
  obtain ⟨iB, hiB, hzB, hsB, hbB⟩ := info_parts infBool
  have IB := hide (And.intro hiB (And.intro hzB (And.intro hsB hbB)))
  clear hiU hzU hsU hbU hiB hzB hsB hbB
  go_upto_region 7 with fail
  go_loopw [10, 11, 12] (fun xv xb iv wr => ∃ (k : Nat) (vl : List Int) (bl : List Bool), k ≤ m + 1 ∧ iv = .int .i64 (k : Int) ∧ EvW w k xv xb vl bl wr ∧ EvI p.T vs vl bl k) (fun _ _ iv _ => m + 1 - (intOf iv).toNat)
  case atStart => exact ⟨0, [], [], by omega, rfl, hE0.out, EvI.nil _ _⟩
  case round =>
    obtain ⟨k, vl, bl, hk, rfl, hw, hi⟩ := hrel
    have HW := hide hw
    have HI := hide hi
    clear hw hi hE0
    by_cases hlt : k ≤ m
    · have hkl : k < p.T.length := by have := HML.out; omega
      obtain ⟨t, ht⟩ : ∃ t, p.T[k]? = some t := ⟨_, List.getElem?_eq_getElem hkl⟩
      have HTK := hide ht
      have HTW := hide (HP.out.rng t (List.mem_of_getElem? ht))
      have HOK := hide (HP.out.wf.ok k t ht)
      have HPT := hide (HP.out.wf.part k t ht)
      clear ht hkl
      go_wp2_with fail
      refine (rget_any (HP.out.below HW.out.below) HTK.out).mono ?_
      rintro e w6 ⟨rfl, hb⟩
      have HW1 := hide (HW.out.step hb)
      clear hb HW
      go_upto_region 10 with (first
        | (refine wpList_store_new rfl 67 (.tmp 13) (.tmp 34) rfl _ t.cells (termV t) (by rfl) (by rfl) rfl sizT rfl (TD.one _) ?_
           intro w7 G5 L5 Z5
           have HX := hide G5
           have HW2 := hide (HW1.out.step L5)
           clear G5 L5 Z5)
        | fail)
      obtain ⟨bx, hbx⟩ : ∃ b, w6.heap.size = b := ⟨_, rfl⟩
      rw [hbx] at HX ⊢
      have tok1 := True.intro
      go_wp2_with (first
        | (clear tok1
           refine wpList_load_at rfl 67 (.tmp 13) rfl ⟨bx, 0, none⟩ (by rfl) t.cells _ (blk_list HX.out) Tryz.underlying67 rfl sizT ?_)
        | fail)
      refine (one_any vs t vl bl sv u10 u11 HTW.out HOK.out HUV.out HI.out.u (by rw [HI.out.lb, HI.out.lv]) (by rw [HI.out.lv]; omega) hfv (fun q hq => by rw [HI.out.lv]; exact HPT.out q hq) _ (HVS.out.below HW2.out.below) (HW2.out.words HI.out.lv) (HW2.out.flags HI.out.lb)).mono ?_
      rintro e w8 ⟨hq, hb⟩
      have HW3 := hide (HW2.out.step hb)
      unfold OneQ at hq
      obtain ⟨x, hx⟩ : ∃ x, (oneP vs t (fun k => vl.getD k.toNat 0) (fun k => bl.getD k.toNat false)).1 = x := ⟨_, rfl⟩
      obtain ⟨ok, hok⟩ : ∃ x, (oneP vs t (fun k => vl.getD k.toNat 0) (fun k => bl.getD k.toNat false)).2 = x := ⟨_, rfl⟩
      rw [hx, hok] at hq
      subst hq
      have HN := hide (HI.out.next HP.out.wf HP.out.rng HUV.out HTK.out hx hok)
      clear hb hx hok HW1 HW2 HX
      have tok1 := True.intro
      have tok2 := True.intro
      have hsz := HW3.out.below.size
      have hkm : k + 1 ≤ maxLen := by unfold maxLen; omega
      go_wp2_with (first
        | (clear tok1
           show wpList _ _ _ (⟨_, .buildSlice _ _ _, _, _, _, _⟩ :: _) _ _
           refine wpList_push3 rfl rfl 23 31 (.tmp 45) (.tmp 44) (.tmp 46) rfl rfl w.heap.size 1 8 iU _ (.int .u64 x) u10 [.int .u64 x] (vl.map (Value.int .u64)) k Tryz.underlying23 IU.out.1 IU.out.2.1 IU.out.2.2.1 IU.out.2.2.2 rfl (by omega) (by omega) (by rfl) (by rfl) rfl one_int HW3.out.rv hsz hkm (by omega) (by rfl) (by rfl) ?_
           intro xv2 w9 gd hgd R2 L2 G2 O2
           have HW4 := hide (EvP1.mk (HW3.out.below.trans L2) R2 (own_block HW3.out.rb fun r q => G2.block r (own_ge HW3.out.rb r q).2 fun e => own_own_ne HW3.out.rv HW3.out.rb (by decide) e.symm q))
           clear R2 L2 G2 O2 HW3 hsz)
        | (clear tok2
           show wpList _ _ _ (⟨_, .buildSlice _ _ _, _, _, _, _⟩ :: _) _ _
           refine wpList_push3 rfl rfl 70 4 (.tmp 50) (.tmp 48) (.tmp 51) rfl rfl w.heap.size 1 1 iB _ (.bool (!ok)) u11 [.bool (!ok)] (bl.map Value.bool) k Tryz.underlying70 IB.out.1 IB.out.2.1 IB.out.2.2.1 IB.out.2.2.2 rfl (by omega) (by omega) (by rfl) (by rfl) rfl one_bool HW4.out.rb HW4.out.below.size hkm (by omega) (by rfl) (by rfl) ?_
           intro xb2 w10 gd hgd R2 L2 G2 O2
           have HW5 := hide (EvW.mk (vl := vl ++ [x]) (bl := bl ++ [!ok]) (k := k + 1) (HW4.out.below.trans L2) (by rw [List.map_append]; exact own_block HW4.out.rv fun r q => G2.block r (own_ge HW4.out.rv r q).2 fun e => own_own_ne HW4.out.rb HW4.out.rv (by decide) e.symm q) (by rw [List.map_append]; exact R2))
           clear R2 L2 G2 O2 HW4)
        | fail)
      go_roundw
      case measure => simp [intOf]; omega
      case rel => exact ⟨k + 1, vl ++ [x], bl ++ [!ok], by omega, by go_num, HW5.out, HN.out⟩
    · obtain rfl : k = m + 1 := by omega
      obtain ⟨adv, cv, jv, e1, hcv, hjv, hlv, hxv⟩ := (HW.out.words HI.out.lv).at_ (k := (m : Int)) (by omega) (by rw [HI.out.lv]; omega)
      obtain ⟨adb, cb, jb, e2, hcb, hjb, hlb, hxb⟩ := (HW.out.flags HI.out.lb).at_ (k := (m : Int)) (by omega) (by rw [HI.out.lb]; omega)
      obtain rfl : m = jv := by omega
      obtain rfl : m = jb := by omega
      rw [HI.out.lv] at e1 hcv
      rw [HI.out.lb] at e2 hcb
      subst e1 e2
      rw [Int.toNat_natCast] at hxv hxb
      have hB := HI.out.b m (by omega)
      rw [HR.out] at hB
      rw [hB] at hxb
      have h1 : m < cv := by omega
      have h2 : m < cb := by omega
      have h3 : m < m + 1 := by omega
      clear hjv hjb hlv hlb
      cases r with
      | none =>
        go_wp2
        go_ret2
        exact ⟨rfl, HW.out.below⟩
      | some x =>
        have hV := HI.out.v m x (by omega) HR.out
        rw [hV] at hxv
        have hxb' : wr.cell? (adb.add m) = some (.bool false) := hxb
        clear hxb hB hV
        go_wp2
        go_ret2
        exact ⟨rfl, HW.out.below⟩
end
end Go.Proofs.YtfjflefgclfbfaaGreat
end
section
namespace Go.Proofs.YtfjflefgclfbfaaGreat
open Go.RowKit
set_option linter.unusedVariables false
set_option linter.unusedSimpArgs false
set_option maxRecDepth 100000
section
variable {base g : Nat} {F : Nat → Prop} {p : PS}
set_option maxHeartbeats 8000000 in
theorem own_any (f : Nat) (x : MD) (hx : x.wf) (hnz : NZ p) (l : List Int) (hl : ∀ v ∈ l, I64 v) (A : Option Addr) (n c : Nat) (hn : l.length = n) (hc : n ≤ c) (hs : n < 1000) (r : RS) (hO : mkF f p x l = some r) (W : World) (h : RefAt W base F g p) (hbase : base ≤ W.heap.size) (hr : Reads W W.heap.size 1 A n (l.map (Value.int .i64))) :
    Calls Tryz.prog 8 #[.pointer (some ⟨g, 0, none⟩), .agg x.cells.toArray, .slice A n c] W (RetR base g F W r) := by
  have HO := hide hO
  have HX := hide hx
  have HNZ := hide hnz
  have HP := hide h
  have HBS := hide hbase
  have HR := hide hr
  have HPK := hide (fun (k : Int) (hk : I64 k) (w : World) (hr : Reads w W.heap.size 1 A n (l.map (Value.int .i64))) => pick_any l A n c _ w hr hn hc hs k hk)
  have HXC := hide (show x.cells.length = 7 by simp [MD.cells])
  have hb1 := bl_alloc W (.cells x.cells.toArray 33)
  have HB1 := hide hb1
  have HBX := hide (Blk.new W 33 x.cells.toArray)
  have HI := hide (show ∀ k, I64 (pickP l k) from fun k => pickP_i64 hl k)
  unfold mkF at hO
  replace HO := hide hO
  clear hO hx h hbase hr hb1
  go_enter Tryz.func8, Tryz.ntmps8
  go_upto_region 1 with fail
  generalize W.alloc (.cells x.cells.toArray 33) = W1 at HB1 HBX ⊢
  have HR1 := hide (HR.out.below HB1.out)
  obtain ⟨bx, hbx⟩ : ∃ b, W.heap.size = b := ⟨_, rfl⟩
  rw [hbx] at HBX ⊢
  clear hbx
  have c0 := HBX.out.cell 0
  have c1 := HBX.out.cell 1
  have c2 := HBX.out.cell 2
  have c3 := HBX.out.cell 3
  have c4 := HBX.out.cell 4
  have c5 := HBX.out.cell 5
  have c6 := HBX.out.cell 6
  simp [MD.cells] at c0 c1 c2 c3 c4 c5 c6
  have HPA := hide (HPK.out x.a HX.out.2.2.2.1)
  have HPB := hide (HPK.out x.b HX.out.2.2.2.2.1)
  have HPC := hide (HPK.out x.c HX.out.2.2.2.2.2.1)
  have HIA := hide (HI.out x.a)
  have HIB := hide (HI.out x.b)
  have HIC := hide (HI.out x.c)
  clear HPK HI
  generalize pickP l x.a = pa at HO HPA HIA
  generalize pickP l x.b = pb at HO HPB HIB
  generalize pickP l x.c = pc at HO HPC HIC
  refine wp_region_E (fun w' => Blk w' bx 33 x.cells.toArray) (fun _ => True) [] (by kernel_rfl) ?_
  have HRd := hide (HR1.out.below ((Below.refl W1.heap.size W1).drew.mono HB1.out.size))
  have HBd := hide (HB1.out.drew)
  have HT := hide (HBX.out.below ((Below.refl _ _).drew) HBX.out.lt)
  clear c0 c1 c2 c3 c4 c5 c6 HR1 HB1 HBX
  generalize W1.drew = Wd at HRd HBd HT ⊢
  refine E_move 0 (some 11) _ (.slice A n c) rfl (by kernel_rfl) (by rfl) (fun _ _ _ h => h) (by rfl) (.both HT.out trivial) ?_
  simp only [Act.put, List.setIfInBounds_toArray, List.set_cons_zero, List.set_cons_succ]
  refine E_any false 1 (some 12) _ (.pointer (some ⟨bx, 3, none⟩)) rfl (by kernel_rfl) (by rfl) (fun _ _ _ h => h) (fun o e w _ => by unfold execOp; simp only [e]; go_simp) (.both HT.out trivial) ?_
  simp only [Act.put, List.setIfInBounds_toArray, List.set_cons_zero, List.set_cons_succ]
  refine E_load1 false 2 (some 13) 3 _ ⟨bx, 3, none⟩ (.int .i64 x.a) rfl (by kernel_rfl) (by rfl) (fun _ _ _ h => h) (by rfl) (fun w hS => run_loadVar_one _ _ _ _ Tryz.underlying3 rfl (hS.1.cell 3)) (.both HT.out trivial) ?_
  simp only [Act.put, List.setIfInBounds_toArray, List.set_cons_zero, List.set_cons_succ]
  refine E_move 4 (some 15) _ (.slice A n c) rfl (by kernel_rfl) (by rfl) (fun _ _ _ h => h) (by rfl) (.both HT.out trivial) ?_
  simp only [Act.put, List.setIfInBounds_toArray, List.set_cons_zero, List.set_cons_succ]
  refine E_any false 5 (some 16) _ (.pointer (some ⟨bx, 4, none⟩)) rfl (by kernel_rfl) (by rfl) (fun _ _ _ h => h) (fun o e w _ => by unfold execOp; simp only [e]; go_simp) (.both HT.out trivial) ?_
  simp only [Act.put, List.setIfInBounds_toArray, List.set_cons_zero, List.set_cons_succ]
  refine E_load1 false 6 (some 17) 3 _ ⟨bx, 4, none⟩ (.int .i64 x.b) rfl (by kernel_rfl) (by rfl) (fun _ _ _ h => h) (by rfl) (fun w hS => run_loadVar_one _ _ _ _ Tryz.underlying3 rfl (hS.1.cell 4)) (.both HT.out trivial) ?_
  simp only [Act.put, List.setIfInBounds_toArray, List.set_cons_zero, List.set_cons_succ]
  refine E_move 8 (some 19) _ (.slice A n c) rfl (by kernel_rfl) (by rfl) (fun _ _ _ h => h) (by rfl) (.both HT.out trivial) ?_
  simp only [Act.put, List.setIfInBounds_toArray, List.set_cons_zero, List.set_cons_succ]
  refine E_any false 9 (some 20) _ (.pointer (some ⟨bx, 5, none⟩)) rfl (by kernel_rfl) (by rfl) (fun _ _ _ h => h) (fun o e w _ => by unfold execOp; simp only [e]; go_simp) (.both HT.out trivial) ?_
  simp only [Act.put, List.setIfInBounds_toArray, List.set_cons_zero, List.set_cons_succ]
  refine E_load1 false 10 (some 21) 3 _ ⟨bx, 5, none⟩ (.int .i64 x.c) rfl (by kernel_rfl) (by rfl) (fun _ _ _ h => h) (by rfl) (fun w hS => run_loadVar_one _ _ _ _ Tryz.underlying3 rfl (hS.1.cell 5)) (.both HT.out trivial) ?_
  simp only [Act.put, List.setIfInBounds_toArray, List.set_cons_zero, List.set_cons_succ]
  refine E_one 3 (by kernel_rfl) (StepE.of 3 (some 14) _ rfl (by rfl) fun o K h2 h3 hKK => ?_)
  unfold Oper.wp execOp
  simp only [h3]
  go_simp
  refine (HPA.out _ HRd.out).mono ?_
  rintro e w8 ⟨rfl, rfl⟩
  dsimp only
  refine hKK _ _ (.both HT.out trivial) ?_
  clear hKK h2 h3 K o
  try simp only [Act.put, List.setIfInBounds_toArray, List.set_cons_zero, List.set_cons_succ]
  refine E_one 7 (by kernel_rfl) (StepE.of 7 (some 18) _ rfl (by rfl) fun o K h2 h3 hKK => ?_)
  unfold Oper.wp execOp
  simp only [h3]
  go_simp
  refine (HPB.out _ HRd.out).mono ?_
  rintro e w8 ⟨rfl, rfl⟩
  dsimp only
  refine hKK _ _ (.both HT.out trivial) ?_
  clear hKK h2 h3 K o
  try simp only [Act.put, List.setIfInBounds_toArray, List.set_cons_zero, List.set_cons_succ]
  refine E_one 11 (by kernel_rfl) (StepE.of 11 (some 22) _ rfl (by rfl) fun o K h2 h3 hKK => ?_)
  unfold Oper.wp execOp
  simp only [h3]
  go_simp
  refine (HPC.out _ HRd.out).mono ?_
  rintro e w8 ⟨rfl, rfl⟩
  dsimp only
  refine hKK _ _ (.both HT.out trivial) ?_
  clear hKK h2 h3 K o
  try simp only [Act.put, List.setIfInBounds_toArray, List.set_cons_zero, List.set_cons_succ]
  refine E_one 12 (by kernel_rfl) (StepE.assign 12 (some 8) _ (.int .i64 pa) rfl (by rfl) (by rfl) (.both HT.out trivial) ?_)
  simp only [Act.put, List.setIfInBounds_toArray, List.set_cons_zero, List.set_cons_succ]
  refine E_one 13 (by kernel_rfl) (StepE.assign 13 (some 9) _ (.int .i64 pb) rfl (by rfl) (by rfl) (.both HT.out trivial) ?_)
  simp only [Act.put, List.setIfInBounds_toArray, List.set_cons_zero, List.set_cons_succ]
  refine E_one 14 (by kernel_rfl) (StepE.assign 14 (some 10) _ (.int .i64 pc) rfl (by rfl) (by rfl) (.both HT.out trivial) ?_)
  simp only [Act.put, List.setIfInBounds_toArray, List.set_cons_zero, List.set_cons_succ]
  refine wpAnyE_done (by kernel_rfl) ?_ _
  have c0 := HT.out.cell 0
  have c1 := HT.out.cell 1
  have c2 := HT.out.cell 2
  have c6 := HT.out.cell 6
  simp [MD.cells] at c0 c1 c2 c6
  have HBm := hide (Nat.le_trans HBS.out HBd.out.size)
  have HPd := hide (RG.of_below HP.out HBd.out)
  cases k0 : (x.kind == 0)
  rotate_left
  · have n0 : x.kind = 0 := by simpa using k0
    have hO := HO.out
    rw [if_pos n0] at hO
    injection hO with hO
    subst hO
    go_wp2_with fail
    refine (const_r x.n HX.out.2.2.2.2.2.2 _ HPd.out.pool HBm.out).mono ?_
    rintro e w9 ⟨rfl, hr9⟩
    have HR9 := hide hr9
    clear hr9
    go_wp2
    go_ret2
    exact RetR.from HPd.out ⟨rfl, HR9.out⟩
  cases k1 : (x.kind == 1)
  rotate_left
  · have n1 : x.kind = 1 := by simpa using k1
    have hO := HO.out
    rw [if_neg (by omega), if_pos n1] at hO
    injection hO with hO
    subst hO
    have hu := HX.out.2.2.2.2.2.2
    have hm : x.n.tmod 64 = x.n % 64 := Int.tmod_eq_emod_of_nonneg hu.1
    have hw1 : IntKind.u64.wrap (x.n % 64) = x.n % 64 := by rw [IntKind.wrap_u64]; omega
    have hw2 : wrap64 (x.n % 64) = x.n % 64 := by unfold wrap64; omega
    have h0 : 0 ≤ x.n % 64 := by omega
    have h1 : x.n % 64 < 64 := by omega
    have HVA := hide (fun w hp hb => var_r (base := base) (g := g) (F := F) (p := p) (x.n % 64) x.w h0 (by omega) HX.out.2.2.1 w hp hb)
    go_wp2_with fail
    refine (HVA.out _ HPd.out.pool HBm.out).mono ?_
    rintro e w9 ⟨rfl, hr9⟩
    have HR9 := hide hr9
    clear hr9
    go_wp2
    go_ret2
    exact RetR.from HPd.out ⟨rfl, HR9.out⟩
  cases k2 : (x.kind == 2)
  rotate_left
  · have n2 : x.kind = 2 := by simpa using k2
    have hO := HO.out
    rw [if_neg (by omega), if_neg (by omega), if_pos n2] at hO
    have HO2 := hide hO
    clear hO
    go_wp2_with fail
    refine (rop_all (base := base) (g := g) f x.op x.w pa pb F p r HO2.out _ HPd.out.pool HBm.out).mono ?_
    rintro e w9 ⟨rfl, hr9⟩
    have HR9 := hide hr9
    clear hr9
    go_wp2
    go_ret2
    exact RetR.from HPd.out ⟨rfl, HR9.out⟩
  cases k3 : (x.kind == 3)
  rotate_left
  · have n3 : x.kind = 3 := by simpa using k3
    have hO := HO.out
    rw [if_neg (by omega), if_neg (by omega), if_neg (by omega), if_pos n3] at hO
    have HO2 := hide hO
    clear hO
    go_wp2_with fail
    refine (zext_r f x.w pa r HO2.out _ HPd.out.pool HBm.out).mono ?_
    rintro e w9 ⟨rfl, hr9⟩
    have HR9 := hide hr9
    clear hr9
    go_wp2
    go_ret2
    exact RetR.from HPd.out ⟨rfl, HR9.out⟩
  cases k4 : (x.kind == 4)
  rotate_left
  · have n4 : x.kind = 4 := by simpa using k4
    have hO := HO.out
    rw [if_neg (by omega), if_neg (by omega), if_neg (by omega), if_neg (by omega), if_pos n4] at hO
    have HO2 := hide hO
    clear hO
    go_wp2_with fail
    refine (cond_r (base := base) (g := g) f x.op x.w pa pb F p r HO2.out HNZ.out _ HPd.out.pool HBm.out).mono ?_
    rintro e w9 ⟨rfl, hr9⟩
    have HR9 := hide hr9
    clear hr9
    go_wp2
    go_ret2
    exact RetR.from HPd.out ⟨rfl, HR9.out⟩
  · have hO := HO.out
    rw [if_neg (by simpa using k0), if_neg (by simpa using k1), if_neg (by simpa using k2), if_neg (by simpa using k3), if_neg (by simpa using k4)] at hO
    have HO2 := hide hO
    clear hO
    go_wp2_with fail
    refine (rite_all (base := base) (g := g) f pa pb pc F p r HO2.out HNZ.out _ HPd.out.pool HBm.out).mono ?_
    rintro e w9 ⟨rfl, hr9⟩
    have HR9 := hide hr9
    clear hr9
    go_wp2
    go_ret2
    exact RetR.from HPd.out ⟨rfl, HR9.out⟩
end
section
variable {B base g : Nat} {l : List Int} {sv : Value} {F F' : Nat → Prop} {W V : World} {p' : PS}
theorem RowN.rg (h : RowN B l sv F W) (k : RG base g F W F' p' V) : RowN B l sv F' V :=
  ⟨k.chg.own h.own h.nf, fun b q r => (k.new b r).elim (h.nf b q) fun e => by have := (own_ge h.own b q).2; omega⟩
end
section
variable {w W V : World} {g g2 B2 : Nat} {p q p' q' : PS} {F F2 F' F2' : Nat → Prop} {l l2 : List Int} {sv sv2 : Value}
/-- Two pools, two rows: nothing of one is the other's. -/
structure KT (w : World) (B2 g g2 : Nat) (p q : PS) (F F2 : Nat → Prop) (l l2 : List Int) (sv sv2 : Value) (W : World) : Prop where
  p1 : PoolAt W w.heap.size F g p
  p2 : RefAt W B2 F2 g2 q
  ge : w.heap.size ≤ B2 ∧ B2 ≤ W.heap.size
  dis : ∀ b, F b → F2 b → False
  r1 : RowN w.heap.size l sv F W
  r1' : ∀ b, sv.ownBlock = some b → ¬ F2 b
  r2 : RowN w.heap.size l2 sv2 F2 W
  r2' : ∀ b, sv2.ownBlock = some b → ¬ F b
  ne : ∀ b, sv.ownBlock = some b → sv2.ownBlock ≠ some b
  below : Below w.heap.size w W
  ib : ∀ v ∈ l, I64 v
  ib2 : ∀ v ∈ l2, I64 v
theorem KT.step (h : KT w B2 g g2 p q F F2 l l2 sv sv2 W) (hb : Below W.heap.size W V) : KT w B2 g g2 p q F F2 l l2 sv sv2 V :=
  ⟨h.p1.below hb, h.p2.below hb, ⟨h.ge.1, Nat.le_trans h.ge.2 hb.size⟩, h.dis, h.r1.below hb, h.r1', h.r2.below hb, h.r2', h.ne, h.below.trans (hb.mono h.below.size), h.ib, h.ib2⟩
theorem KT.pg1 (h : KT w B2 g g2 p q F F2 l l2 sv sv2 W) (k : PG w.heap.size g F W F' p' V) : KT w B2 g g2 p' q F' F2 l l2 sv sv2 V :=
  ⟨k.pool, h.p2.chg k.chg (fun b h2 h1 => h.dis b h1 h2), ⟨h.ge.1, Nat.le_trans h.ge.2 k.size⟩, fun b h1 h2 => (k.new b h1).elim (fun e => h.dis b e h2) fun e => by have := (h.p2.fb b h2).2; omega,
    h.r1.pg k, h.r1', h.r2.chg k.chg h.r2', fun b e r => (k.new b r).elim (h.r2' b e) fun z => by have := (own_ge h.r2.own b e).2; omega, h.ne, h.below.trans (k.chg.below (fun b q => (h.p1.fb b q).1) h.below.size), h.ib, h.ib2⟩
theorem KT.pg2 (h : KT w B2 g g2 p q F F2 l l2 sv sv2 W) (k : RG B2 g2 F2 W F2' q' V) : KT w B2 g g2 p q' F F2' l l2 sv sv2 V :=
  ⟨h.p1.chg k.chg h.dis, k.pool, ⟨h.ge.1, Nat.le_trans h.ge.2 k.size⟩, fun b h1 h2 => (k.new b h2).elim (fun e => h.dis b h1 e) fun e => by have := (h.p1.fb b h1).2; omega,
    h.r1.chg k.chg h.r1', fun b e r => (k.new b r).elim (h.r1' b e) fun z => by have := (own_ge h.r1.own b e).2; omega, h.r2.rg k, h.r2', h.ne, h.below.trans (k.chg.below (fun b q => Nat.le_trans h.ge.1 (h.p2.fb b q).1) h.below.size), h.ib, h.ib2⟩
theorem KT.push1 (h : KT w B2 g g2 p q F F2 l l2 sv sv2 W) {v : Int} (hv : I64 v) {s' : Value} (ho : V.ownsRow w.heap.size 3 1 s' (l.length + 1) (l.map (Value.int .i64) ++ [.int .i64 v])) (hg : W.grownBy V sv.ownBlock) (hn : ∀ b, s'.ownBlock = some b → sv.ownBlock = some b ∨ W.heap.size ≤ b) : KT w B2 g g2 p q F F2 (l ++ [v]) l2 s' sv2 V where
  p1 := row_pool h.r1 h.p1 hg
  p2 := h.p2.chg (G := fun b => sv.ownBlock = some b) (Chg.of_grown hg fun r e => .inl e) fun b r e => h.r1' b e r
  ge := ⟨h.ge.1, Nat.le_trans h.ge.2 hg.size⟩
  dis := h.dis
  r1 := ⟨by rw [List.length_append, List.map_append]; exact ho, fun b q r => (hn b q).elim (fun e => h.r1.nf b e r) fun e => by have := (h.p1.fb b r).2; omega⟩
  r1' := fun b q r => (hn b q).elim (fun e => h.r1' b e r) fun e => by have := (h.p2.fb b r).2; omega
  r2 := h.r2.chg (G := fun b => sv.ownBlock = some b) (Chg.of_grown hg fun r e => .inl e) fun b e q => h.ne b q e
  r2' := h.r2'
  ne := fun b q e => (hn b q).elim (fun z => h.ne b z e) fun z => by have := (own_ge h.r2.own b e).2; omega
  below := h.below.trans ((Below.refl w.heap.size W).grown hg h.below.size fun b q => (own_ge h.r1.own b q).1)
  ib := fun u hu => by
    rcases List.mem_append.1 hu with e | e
    · exact h.ib u e
    · simp at e; rw [e]; exact hv
  ib2 := h.ib2
theorem KT.push2 (h : KT w B2 g g2 p q F F2 l l2 sv sv2 W) {v : Int} (hv : I64 v) {s' : Value} (ho : V.ownsRow w.heap.size 3 1 s' (l2.length + 1) (l2.map (Value.int .i64) ++ [.int .i64 v])) (hg : W.grownBy V sv2.ownBlock) (hn : ∀ b, s'.ownBlock = some b → sv2.ownBlock = some b ∨ W.heap.size ≤ b) : KT w B2 g g2 p q F F2 l (l2 ++ [v]) sv s' V where
  p1 := h.p1.chg (G := fun b => sv2.ownBlock = some b) (Chg.of_grown hg fun r e => .inl e) fun b r e => h.r2' b e r
  p2 := h.p2.chg (G := fun b => sv2.ownBlock = some b) (Chg.of_grown hg fun r e => .inl e) fun b q e => h.r2.nf b e q
  ge := ⟨h.ge.1, Nat.le_trans h.ge.2 hg.size⟩
  dis := h.dis
  r1 := h.r1.chg (G := fun b => sv2.ownBlock = some b) (Chg.of_grown hg fun r e => .inl e) fun b e q => h.ne b e q
  r1' := h.r1'
  r2 := ⟨by rw [List.length_append, List.map_append]; exact ho, fun b q r => (hn b q).elim (fun e => h.r2.nf b e r) fun e => by have := (h.p2.fb b r).2; omega⟩
  r2' := fun b q r => (hn b q).elim (fun e => h.r2' b e r) fun e => by have := (h.p1.fb b r).2; omega
  ne := fun b e q => (hn b q).elim (fun z => h.ne b e z) fun z => by have := (own_ge h.r1.own b e).2; omega
  below := h.below.trans ((Below.refl w.heap.size W).grown hg h.below.size fun b q => (own_ge h.r2.own b q).1)
  ib := h.ib
  ib2 := fun u hu => by
    rcases List.mem_append.1 hu with e | e
    · exact h.ib2 u e
    · simp at e; rw [e]; exact hv
end
end Go.Proofs.YtfjflefgclfbfaaGreat
end
