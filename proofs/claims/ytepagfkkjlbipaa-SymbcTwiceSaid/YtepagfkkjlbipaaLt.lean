/-
  SymbcTwice: gone through twice in one pool, a block comes to just the same terms. Conditions: those written in each statement.
-/
import Derived.Test.YtepagfkkjlbipaaKbm
namespace Go.Proofs.Ytepagfkkjlbipaa
open Go.RowKit
set_option linter.unusedVariables false
set_option linter.unusedSimpArgs false
set_option maxRecDepth 100000
theorem run_regs (p : PS) (c : Int) (l : List ID) (block : Int) {regs : List Int} {k : Nat} (h : MI (SM.mk p regs [] 0) (k + 1950) 1) : (runV p c l block regs).regs.length = 11 := by
  by_cases hc : (chkP c l).2 = 0
  · cases ha : askB p l block regs
    · rw [run_arg hc ha]; rfl
    · obtain ⟨m, q, R⟩ := run_fits h hc ha
      rw [R.run]
      show q.1.regs.length = 11
      rw [R.rgs]
      exact R.mi.len
  · rw [run_bad hc]; rfl
theorem run_pool (p : PS) (c : Int) (l : List ID) (block : Int) {regs : List Int} {k : Nat} (h : MI (SM.mk p regs [] 0) (k + 1950) 1) : Ext p (runV p c l block regs).p ∧ (runV p c l block regs).evs.length ≤ 64 := by
  by_cases hc : (chkP c l).2 = 0
  · cases ha : askB p l block regs
    · rw [run_arg hc ha]; exact ⟨Ext.refl p, by simp⟩
    · obtain ⟨m, q, R⟩ := run_fits h hc ha
      rw [R.run]
      refine ⟨R.ext.trans R.exq, ?_⟩
      show q.1.evs.length ≤ 64
      rw [R.evs, ← R.eqm]
      have h1 := go_evs (SM.mk p regs [] 0) (insOf l (blkAt l block))
      have h2 := (ins_may hc (x := blkAt l block)).2
      have h3 : (SM.mk p regs [] 0).evs.length = 0 := rfl
      unfold goV
      omega
  · rw [run_bad hc]; exact ⟨Ext.refl p, by simp⟩
theorem run_ixa {ad : Addr} {n cap i : Nat} (h0 : i < n) (w : World) : (Instr.indexAt 36 (.slice (some ad) n cap) (.int .i64 (i : Int))).run Try.prog w = .ok (.pointer (some (ad.add (i * 6)))) w := by
  go_simp
/-- An event of each, as they lie. -/
def TF (b8 b13 : Nat) (e1 e2 : Value) (a1 a2 : Addr) (x : EvD) (v1 v2 : Value) (w : World) : Prop := w.cell? ⟨b8, 11, none⟩ = some e1 ∧ w.cell? ⟨b13, 11, none⟩ = some e2 ∧ (∀ j u, (evC (x, v1))[j]? = some u → w.cell? (a1.add j) = some u) ∧ (∀ j u, (evC (x, v2))[j]? = some u → w.cell? (a2.add j) = some u) ∧ NxAt w w.heap.size v1 x.args ∧ NxAt w w.heap.size v2 x.args ∧ b8 < w.heap.size ∧ b13 < w.heap.size ∧ a1.block < w.heap.size ∧ a2.block < w.heap.size
theorem TF.step {b8 b13 : Nat} {e1 e2 : Value} {a1 a2 : Addr} {x : EvD} {v1 v2 : Value} {w w' : World} (h : TF b8 b13 e1 e2 a1 a2 x v1 v2 w) (hb : Below w.heap.size w w') : TF b8 b13 e1 e2 a1 a2 x v1 v2 w' := by
  obtain ⟨h1, h2, h3, h4, h5, h6, h7, h8, h9, h10⟩ := h
  have hz := hb.size
  have hw : ∀ {v l}, NxAt w w.heap.size v l → NxAt w' w'.heap.size v l := fun q => (q.below hb).more hz
  exact ⟨(hb.cell (by exact h7)).trans h1, (hb.cell (by exact h8)).trans h2, fun j u hu => (hb.cell (by rw [block_of_add]; exact h9)).trans (h3 j u hu), fun j u hu => (hb.cell (by rw [block_of_add]; exact h10)).trans (h4 j u hu), hw h5, hw h6, by omega, by omega, by omega, by omega⟩
theorem flatRg : flatK Try.prog 4 32 = some (List.replicate 11 (some .i64)) := by kernel_rfl
theorem okRg : eqOk Try.prog 4 32 = true := by kernel_rfl
theorem aggRg : aggT Try.prog 32 = true := by kernel_rfl
theorem flatEx : flatK Try.prog 4 38 = some [some .i8, some .i64, some .i64, some .i64] := by kernel_rfl
theorem okEx : eqOk Try.prog 4 38 = true := by kernel_rfl
theorem aggEx : aggT Try.prog 38 = true := by kernel_rfl
theorem sizEx : (Try.prog.info? 38).map (·.size) = some 4 := by kernel_rfl
theorem all_regs : ∀ {l : List Int} {n : Nat}, l.length = n → (∀ r ∈ l, I64 r) → AllK (List.replicate n (some .i64)) (rgC l) := by
  intro l n hl hr
  refine ⟨by unfold rgC; simp [hl], fun i k v hk hv => ?_⟩
  unfold rgC at hv
  rw [List.getElem?_map] at hv
  obtain ⟨x, hx, rfl⟩ := Option.map_eq_some_iff.1 hv
  rw [List.getElem?_replicate] at hk
  split at hk
  · injection hk with hk
    subst hk
    exact ⟨x, rfl, wf_i64 (hr x (List.mem_of_getElem? hx))⟩
  · cases hk
theorem neq_regs {l : List Int} (hl : l.length = 11) (hr : ∀ r ∈ l, I64 r) (w : World) : (binOp .neq 32 (.agg (rgC l).toArray) (.agg (rgC l).toArray)).run Try.prog w = .ok (.bool false) w := by
  rw [run_neq_flat (by omega) flatRg okRg aggRg (all_regs hl hr) (all_regs hl hr) w, (eqL_iff _ _ _ (all_regs hl hr) (all_regs hl hr)).2 rfl]
  rfl
theorem neq_exit {x : ExD} (h1 : I8 x.kind) (h2 : I64 x.v) (h3 : I64 x.tgt) (h4 : I64 x.els) (w : World) : (binOp .neq 38 (.agg (exC x).toArray) (.agg (exC x).toArray)).run Try.prog w = .ok (.bool false) w := by
  have ha : AllK [some .i8, some .i64, some .i64, some .i64] (exC x) := by
    unfold exC
    refine ⟨rfl, fun i k v hk hv => ?_⟩
    match i with
    | 0 => simp at hk hv; subst hk hv; exact ⟨_, rfl, wf_i8 h1⟩
    | 1 => simp at hk hv; subst hk hv; exact ⟨_, rfl, wf_i64 h2⟩
    | 2 => simp at hk hv; subst hk hv; exact ⟨_, rfl, wf_i64 h3⟩
    | 3 => simp at hk hv; subst hk hv; exact ⟨_, rfl, wf_i64 h4⟩
    | k + 4 => simp at hk
  rw [run_neq_flat (by omega) flatEx okEx aggEx ha ha w, (eqL_iff _ _ _ ha ha).2 rfl]
  rfl
theorem run_vals (p : PS) (c : Int) (l : List ID) (block : Int) {regs : List Int} {k : Nat} (h : MI (SM.mk p regs [] 0) (k + 1950) 1) : (∀ r ∈ (runV p c l block regs).regs, I64 r) ∧ I8 (runV p c l block regs).ex.kind ∧ I64 (runV p c l block regs).ex.v ∧ I64 (runV p c l block regs).ex.tgt ∧ I64 (runV p c l block regs).ex.els := by
  have zr : ∀ r ∈ zeroRg, I64 r := fun r hr => by rw [List.eq_of_mem_replicate hr]; unfold I64; omega
  have z0 : I8 0 ∧ I64 0 := by unfold I8 I64; omega
  by_cases hc : (chkP c l).2 = 0
  · cases ha : askB p l block regs
    · rw [run_arg hc ha]; exact ⟨zr, z0.1, z0.2, z0.2, z0.2⟩
    · obtain ⟨m, q, R⟩ := run_fits h hc ha
      obtain ⟨_, _, h1, h64, hok, _, _⟩ := chk_ok hc
      obtain ⟨_, hnx, _⟩ := blkL_ok (by omega) h64 hok _ (ask_blk ha)
      have hnx' : ∀ i, I64 ((blkAt l block).next.getD i 0) := fun i => by
        rw [List.getD_eq_getElem?_getD]
        cases hq : (blkAt l block).next[i]? with
        | none => exact z0.2
        | some y => exact hnx y (List.mem_of_getElem? hq)
      rw [R.run]
      refine ⟨fun r hr => ?_, ?_⟩
      · have hr' : r ∈ q.1.regs := hr
        rw [R.rgs] at hr'
        exact has_i64 R.mi.rm.wf (R.mi.reg r hr').1
      · show I8 q.2.kind ∧ I64 q.2.v ∧ I64 q.2.tgt ∧ I64 q.2.els
        have hv := R.exv
        have hvw : hasB q.1.p.T q.2.v = true → I64 q.2.v := fun e => has_i64 R.rm.wf e
        have he := R.eqq
        unfold SM.ends at he
        split at he
        · subst he
          exact ⟨z0.1, hvw (hv (fun (e : (0 : Int) = 1) => by omega)), z0.2, z0.2⟩
        split at he
        · subst he
          exact ⟨(show I8 2 by unfold I8; omega), hvw (hv (fun (e : (2 : Int) = 1) => by omega)), hnx' 0, hnx' 1⟩
        · subst he
          exact ⟨(show I8 1 by unfold I8; omega), z0.2, hnx' 0, z0.2⟩
  · rw [run_bad hc]; exact ⟨zr, z0.1, z0.2, z0.2, z0.2⟩
theorem src_parts {w : World} {b : Nat} {regs : List Int} {es : Value} {ex : ExD} (hl : regs.length = 11) (h : Blk w b 40 (srcC regs es ex).toArray) :
    (∀ j u, (rgC regs)[j]? = some u → w.cell? ((⟨b, 0, none⟩ : Addr).add j) = some u) ∧ (∀ j u, (exC ex)[j]? = some u → w.cell? ((⟨b, 12, none⟩ : Addr).add j) = some u) := by
  have hr : (rgC regs).length = 11 := by unfold rgC; simp [hl]
  refine ⟨fun j u hu => ?_, fun j u hu => ?_⟩
  · refine blk_list h j u ?_
    unfold srcC
    rw [List.getElem?_append_left (List.getElem?_eq_some_iff.1 hu).1]
    exact hu
  · have hc := h.cell (12 + j)
    rw [List.getElem?_toArray] at hc
    rw [show (⟨b, 12, none⟩ : Addr).add j = ⟨b, 12 + j, none⟩ from by unfold Addr.add; split <;> simp_all, hc]
    unfold srcC
    rw [List.getElem?_append_right (by omega), hr, show 12 + j - 11 = j + 1 by omega]
    exact hu
set_option maxHeartbeats 16000000 in
theorem twice_walk (c : Int) (A : Option Addr) (n cap : Nat) (l : List ID) (block : Int) (w : World) (hh : InsAt w w.heap.size A n l) (hc : n ≤ cap) (hm : n < 9223372036854775808) (hbk : I64 block) :
    Calls Try.prog 5 #[.agg #[.int .i64 c, .slice A n cap], .int .i64 block] w fun e w' => e = .returned (.bool true) ∧ Below w.heap.size w w' := by
  obtain ⟨w1, hw1⟩ : ∃ v, w.alloc (.cells #[.int .i64 c, .slice A n cap] 29) = v := ⟨_, rfl⟩
  have hb0 : Below w.heap.size w w1 := by rw [← hw1]; exact (Below.refl _ w).alloc (Nat.le_refl _) _
  have HBP := hide (show Blk w1 w.heap.size 29 #[.int .i64 c, .slice A n cap] by rw [← hw1]; exact Blk.new w 29 #[.int .i64 c, .slice A n cap])
  have HI := hide (hh.up hb0 hb0.size)
  have HW := hide hb0
  have HN := hide (And.intro hc hm)
  have HBK := hide hbk
  have c20 : w1.cell? ⟨w.heap.size, 0, none⟩ = some (.int .i64 c) := HBP.out.cell 0
  have c21 : w1.cell? ⟨w.heap.size, 1, none⟩ = some (.slice A n cap) := HBP.out.cell 1
  obtain ⟨bp, hbp⟩ : ∃ k, w.heap.size = k := ⟨_, rfl⟩
  have HBPe := hide hbp
  rw [hbp] at HBP c20 c21
  clear hh hc hm hbk hb0
  cases hg : decide (100 < n)
  rotate_left
  · have hn100 : 100 < n := by simpa using hg
    go_enter Try.func5, Try.ntmps5
    go_wp2_with fail
    refine (wakes_any _).mono ?_
    rintro e w2 ⟨rfl, hb⟩
    have HQ := hide hb
    clear hb
    go_wp2
    go_ret
    exact ⟨rfl, HW.out.trans (HQ.out.mono HW.out.size)⟩
  have hn100 : n ≤ 100 := by simpa using hg
  clear hg
  go_enter Try.func5, Try.ntmps5
  go_wp2_with fail
  refine (new_any _).mono ?_
  rintro e w2 ⟨g, F0, rfl, hp, hb⟩
  have HF := hide (fun b q => (hp.fb b q).1 : ∀ b, F0 b → w1.heap.size ≤ b)
  have HB := hide hb.size
  have HW2 := hide hb
  have HQ := hide (PG.refl hp)
  replace HBP := hide (show Blk w2 bp 29 #[.int .i64 c, .slice A n cap] ∧ ¬ F0 bp from ⟨HBP.out.below hb HBP.out.lt, fun q => by have := (hp.fb bp q).1; have := HBP.out.lt; omega⟩)
  replace HI := hide (show InsF w2 F0 A n l from InsF.of_ins (HI.out.below hb) hb.size (fun k q => (hp.fb k q).1))
  clear hp hb c20 c21 hw1 hbp
  go_upto_region 4 with fail
  go_wp2_with fail
  refine (start_any HQ.out.pool HB.out).mono ?_
  rintro e w3 ⟨rfl, F1, hp1⟩
  rw [start_empty] at hp1 ⊢
  replace HBP := hide (hp1.blk HBP.out.1 HBP.out.2)
  replace HI := hide (show InsF w3 F1 A n l from HI.out.chg hp1.chg (fun b q => .inl q) (fun b q => hp1.new b q))
  replace HQ := hide (HQ.out.trans hp1)
  replace HB := hide (Nat.le_trans HB.out hp1.chg.size)
  clear hp1
  go_upto_region 5 with (first
    | (refine wpList_store_new rfl 32 (.tmp 6) (.tmp 25) rfl _ (rgC R0) (.agg (rgC R0).toArray) (by rfl) (by rfl) rfl sizR (by rfl) (rgC_one _) ?_
       intro w4 Gz Lz Zz
       have HB6 := hide Gz
       have HL6 := hide Lz
       clear Gz Lz Zz)
    | fail)
  have hn6 : ¬ F1 w3.heap.size := fun q => by have := (HQ.out.pool.fb _ q).2; omega
  obtain ⟨b6, hb6⟩ : ∃ k, w3.heap.size = k := ⟨_, rfl⟩
  rw [hb6] at HB6 hn6 ⊢
  replace HB6 := hide (And.intro HB6.out hn6)
  replace HBP := hide (And.intro (HBP.out.1.below HL6.out HBP.out.1.lt) HBP.out.2)
  replace HI := hide (HI.out.step HL6.out)
  replace HQ := hide (HQ.out.step HL6.out)
  replace HB := hide (Nat.le_trans HB.out HL6.out.size)
  have c20 : w4.cell? ⟨bp, 0, none⟩ = some (.int .i64 c) := HBP.out.1.cell 0
  have c21 : w4.cell? ⟨bp, 1, none⟩ = some (.slice A n cap) := HBP.out.1.cell 1
  clear hb6 HL6 hn6
  go_wp2_with (first
    | (refine wpList_load_at rfl 32 (.tmp 6) rfl ⟨b6, 0, none⟩ (by rfl) (rgC R0) _ (blk_list HB6.out.1) Try.underlying32 rfl (sizR) ?_)
    | fail)
  have hR0 : ∀ r ∈ R0, I64 r := fun r hr => has_i64 P0_good.1 (P0_good.2.2 r hr)
  refine (srun_any HQ.out.pool HB.out c A n cap l HI.out HN.out.1 HN.out.2 block HBK.out R0 rfl hR0).mono ?_
  rintro e w5 ⟨es, F2, rfl, hp2, hev, ho⟩
  have hx1 := run_pool (k := 1950) P0 c l block P0_mi
  have hx2 := run_regs (k := 1950) P0 c l block P0_mi
  have hx3 := run_vals (k := 1950) P0 c l block P0_mi
  have hx4 := fun q => run_ag (k := 1950) (c := c) (l := l) (block := block) P0_mi (q := q)
  obtain ⟨r1, hr1⟩ : ∃ r, runV P0 c l block R0 = r := ⟨_, rfl⟩
  rw [hr1] at hx1 hx2 hx3 hx4 hp2 hev ⊢
  replace HBP := hide (hp2.blk HBP.out.1 HBP.out.2)
  replace HB6 := hide (hp2.blk HB6.out.1 HB6.out.2)
  replace HI := hide (show InsF w5 F2 A n l from HI.out.chg hp2.chg (fun b q => .inl q) (fun b q => hp2.new b q))
  replace HQ := hide (HQ.out.trans hp2)
  replace HB := hide (Nat.le_trans HB.out hp2.chg.size)
  replace hev := (hev.less (F := F2) fun b q => .inl q)
  have HEV := hide hev
  have HO := hide ho
  have HX1 := hide hx1
  have HX3 := hide hx3
  have HX4 := hide hx4
  have HRL := hide hx2
  clear hp2 hev ho hx1 hx2 hx3 hx4 hr1 c20 c21
  go_upto_region 6 with (first
    | (refine wpList_store_new rfl 40 (.tmp 8) (.tmp 33) rfl _ (srcC r1.regs es r1.ex) (.agg (srcC r1.regs es r1.ex).toArray) (by rfl) (by rfl) rfl (by rw [srcC_len HRL.out]; exact sizS) (by rw [srcC_len HRL.out]; rfl) (srcC_one HO.out _) ?_
       intro w6 Gz Lz Zz
       have HB8 := hide Gz
       have HL8 := hide Lz
       clear Gz Lz Zz)
    | fail)
  have hn8 : ¬ F2 w5.heap.size := fun q => by have := (HQ.out.pool.fb _ q).2; omega
  obtain ⟨b8, hb8⟩ : ∃ k, w5.heap.size = k := ⟨_, rfl⟩
  rw [hb8] at HB8 hn8 ⊢
  replace HB8 := hide (And.intro HB8.out hn8)
  replace HBP := hide (And.intro (HBP.out.1.below HL8.out HBP.out.1.lt) HBP.out.2)
  replace HB6 := hide (And.intro (HB6.out.1.below HL8.out HB6.out.1.lt) HB6.out.2)
  replace HI := hide (HI.out.step HL8.out)
  replace HEV := hide (HEV.out.step HL8.out)
  replace HQ := hide (HQ.out.step HL8.out)
  replace HB := hide (Nat.le_trans HB.out HL8.out.size)
  clear hb8 HL8 hn8
  go_wp2_with fail
  refine (len_any HQ.out.pool).mono ?_
  rintro e w7 ⟨rfl, rfl⟩
  obtain ⟨m, hm⟩ : ∃ k, r1.p.T.length = k := ⟨_, rfl⟩
  rw [hm]
  have HM := hide hm
  clear hm
  go_upto_region 7 with fail
  go_wp2_with fail
  have hst := start_ag HQ.out.pool.wf HX1.out.1
  refine (start_any HQ.out.pool HB.out).mono ?_
  rintro e w8 ⟨rfl, F3, hp3⟩
  rw [hst] at hp3 ⊢
  replace HBP := hide (hp3.blk HBP.out.1 HBP.out.2)
  replace HB6 := hide (hp3.blk HB6.out.1 HB6.out.2)
  replace HB8 := hide (hp3.blk HB8.out.1 HB8.out.2)
  replace HI := hide (show InsF w8 F3 A n l from HI.out.chg hp3.chg (fun b q => .inl q) (fun b q => hp3.new b q))
  replace HEV := hide (HEV.out.pg hp3)
  replace HQ := hide (HQ.out.trans hp3)
  replace HB := hide (Nat.le_trans HB.out hp3.chg.size)
  clear hp3 hst
  go_upto_region 8 with (first
    | (refine wpList_store_new rfl 32 (.tmp 11) (.tmp 40) rfl _ (rgC R0) (.agg (rgC R0).toArray) (by rfl) (by rfl) rfl sizR (by rfl) (rgC_one _) ?_
       intro w9 Gz Lz Zz
       have HB11 := hide Gz
       have HL11 := hide Lz
       clear Gz Lz Zz)
    | fail)
  have hn11 : ¬ F3 w8.heap.size := fun q => by have := (HQ.out.pool.fb _ q).2; omega
  obtain ⟨b11, hb11⟩ : ∃ k, w8.heap.size = k := ⟨_, rfl⟩
  rw [hb11] at HB11 hn11 ⊢
  replace HB11 := hide (And.intro HB11.out hn11)
  replace HBP := hide (And.intro (HBP.out.1.below HL11.out HBP.out.1.lt) HBP.out.2)
  replace HB6 := hide (And.intro (HB6.out.1.below HL11.out HB6.out.1.lt) HB6.out.2)
  replace HB8 := hide (And.intro (HB8.out.1.below HL11.out HB8.out.1.lt) HB8.out.2)
  replace HI := hide (HI.out.step HL11.out)
  replace HEV := hide (HEV.out.step HL11.out)
  replace HQ := hide (HQ.out.step HL11.out)
  replace HB := hide (Nat.le_trans HB.out HL11.out.size)
  have c20 : w9.cell? ⟨bp, 0, none⟩ = some (.int .i64 c) := HBP.out.1.cell 0
  have c21 : w9.cell? ⟨bp, 1, none⟩ = some (.slice A n cap) := HBP.out.1.cell 1
  clear hb11 HL11 hn11
  go_wp2_with (first
    | (refine wpList_load_at rfl 32 (.tmp 11) rfl ⟨b11, 0, none⟩ (by rfl) (rgC R0) _ (blk_list HB11.out.1) Try.underlying32 rfl (sizR) ?_)
    | fail)
  refine (srun_any HQ.out.pool HB.out c A n cap l HI.out HN.out.1 HN.out.2 block HBK.out R0 rfl hR0).mono ?_
  rintro e w10 ⟨es2, F4, rfl, hp4, hev, ho⟩
  rw [HX4.out r1.p HQ.out.pool.wf (Ext.refl _) HX1.out.1] at hp4 hev ⊢
  dsimp only at hp4 hev ⊢
  replace HB6 := hide (hp4.blk HB6.out.1 HB6.out.2)
  replace HB8 := hide (hp4.blk HB8.out.1 HB8.out.2)
  replace HB11 := hide (hp4.blk HB11.out.1 HB11.out.2)
  replace HEV := hide (HEV.out.pg hp4)
  replace HQ := hide (HQ.out.trans hp4)
  replace HB := hide (Nat.le_trans HB.out hp4.chg.size)
  replace hev := (hev.less (F := F4) fun b q => .inl q)
  have HEV2 := hide hev
  have HO2 := hide ho
  clear hp4 hev ho c20 c21 hR0 HX4 HI HBP
  go_upto_region 9 with (first
    | (refine wpList_store_new rfl 40 (.tmp 13) (.tmp 48) rfl _ (srcC r1.regs es2 r1.ex) (.agg (srcC r1.regs es2 r1.ex).toArray) (by rfl) (by rfl) rfl (by rw [srcC_len HRL.out]; exact sizS) (by rw [srcC_len HRL.out]; rfl) (srcC_one HO2.out _) ?_
       intro w11 Gz Lz Zz
       have HB13 := hide Gz
       have HL13 := hide Lz
       clear Gz Lz Zz)
    | fail)
  have hn13 : ¬ F4 w10.heap.size := fun q => by have := (HQ.out.pool.fb _ q).2; omega
  obtain ⟨b13, hb13⟩ : ∃ k, w10.heap.size = k := ⟨_, rfl⟩
  rw [hb13] at HB13 hn13 ⊢
  replace HB13 := hide (And.intro HB13.out hn13)
  replace HB6 := hide (And.intro (HB6.out.1.below HL13.out HB6.out.1.lt) HB6.out.2)
  replace HB8 := hide (And.intro (HB8.out.1.below HL13.out HB8.out.1.lt) HB8.out.2)
  replace HB11 := hide (And.intro (HB11.out.1.below HL13.out HB11.out.1.lt) HB11.out.2)
  replace HEV := hide (HEV.out.step HL13.out)
  replace HEV2 := hide (HEV2.out.step HL13.out)
  replace HQ := hide (HQ.out.step HL13.out)
  replace HB := hide (Nat.le_trans HB.out HL13.out.size)
  clear hb13 HL13 hn13
  have qn := neq_regs (l := R0) rfl (fun r hr => has_i64 P0_good.1 (P0_good.2.2 r hr))
  have qr := neq_regs HRL.out HX3.out.1
  have qe := neq_exit HX3.out.2.1 HX3.out.2.2.1 HX3.out.2.2.2.1 HX3.out.2.2.2.2
  obtain ⟨er, her⟩ : ∃ e, r1.err = e := ⟨_, rfl⟩
  rw [her]
  clear her
  go_upto_region 11 with (first
    | (refine wpList_load_atw (by rfl) 32 (.tmp 6) rfl ⟨b6, 0, none⟩ (by rfl) (rgC R0) _ (blk_list HB6.out.1) Try.underlying32 rfl (sizR) ?_)
    | (refine wpList_load_atw (by rfl) 32 (.tmp 11) rfl ⟨b11, 0, none⟩ (by rfl) (rgC R0) _ (blk_list HB11.out.1) Try.underlying32 rfl (sizR) ?_)
    | fail)
  cases hz : (er != 0)
  rotate_left
  · go_wp2_with fail
    refine (wakes_any _).mono ?_
    rintro e w20 ⟨rfl, hb⟩
    have HL20 := hide hb
    clear hb
    go_wp2
    go_ret
    exact ⟨rfl, HW.out.trans ((HW2.out.mono HW.out.size).trans ((HQ.out.chg.below (B := w.heap.size) (fun b q => Nat.le_trans HW.out.size (HF.out b q)) (Nat.le_trans HW.out.size HW2.out.size)).trans (HL20.out.mono (Nat.le_trans HW.out.size HB.out))))⟩
  have he0 : er = 0 := by simpa using hz
  subst he0
  clear hz
  obtain ⟨A1, k1, rfl, hk1⟩ := HEV.out.form
  obtain ⟨A2, k2, rfl, hk2⟩ := HEV2.out.form
  obtain ⟨ne, hne⟩ : ∃ k, r1.evs.length = k := ⟨_, rfl⟩
  rw [hne] at hk1 hk2 HEV HEV2 HB8 HB13
  have HNE := hide (show ne ≤ 64 by rw [← hne]; exact HX1.out.2)
  have c811 : w11.cell? ⟨b8, 11, none⟩ = some (.slice A1 ne k1) := by
    have := HB8.out.1.cell 11
    rw [this, List.getElem?_toArray]
    unfold srcC rgC
    rw [List.getElem?_append_right (by rw [List.length_map, HRL.out]; exact Nat.le_refl _), List.length_map, HRL.out]
    rfl
  have c1311 : w11.cell? ⟨b13, 11, none⟩ = some (.slice A2 ne k2) := by
    have := HB13.out.1.cell 11
    rw [this, List.getElem?_toArray]
    unfold srcC rgC
    rw [List.getElem?_append_right (by rw [List.length_map, HRL.out]; exact Nat.le_refl _), List.length_map, HRL.out]
    rfl
  have HXC := hide (And.intro (src_parts HRL.out HB8.out.1) (src_parts HRL.out HB13.out.1))
  go_upto_region 13 with fail
  go_wp2_with fail
  refine (len_any HQ.out.pool).mono ?_
  rintro e w12 ⟨rfl, rfl⟩
  rw [HM.out]
  go_upto_region 15 with (first
    | (refine wpList_load_atw (by rfl) 32 (.tmp 74) rfl ⟨b8, 0, none⟩ (by rfl) (rgC r1.regs) _ (HXC.out.1.1) Try.underlying32 rfl (by simp only [rgC, List.length_map, HRL.out]; exact sizR) ?_)
    | (refine wpList_load_atw (by rfl) 32 (.tmp 76) rfl ⟨b13, 0, none⟩ (by rfl) (rgC r1.regs) _ (HXC.out.2.1) Try.underlying32 rfl (by simp only [rgC, List.length_map, HRL.out]; exact sizR) ?_)
    | (refine wpList_load_atw (by rfl) 38 (.tmp 81) rfl ⟨b8, 12, none⟩ (by rfl) (exC r1.ex) _ (HXC.out.1.2) Try.underlying38 rfl (sizEx) ?_)
    | (refine wpList_load_atw (by rfl) 38 (.tmp 83) rfl ⟨b13, 12, none⟩ (by rfl) (exC r1.ex) _ (HXC.out.2.2) Try.underlying38 rfl (sizEx) ?_)
    | fail)
  have HK := hide (show Blk w11 b8 40 (srcC r1.regs (.slice A1 ne k1) r1.ex).toArray ∧ Blk w11 b13 40 (srcC r1.regs (.slice A2 ne k2) r1.ex).toArray from ⟨HB8.out.1, HB13.out.1⟩)
  have HC8 := hide c811
  have HC13 := hide c1311
  have HL8 := HB8.out.1.lt
  have HL13 := HB13.out.1.lt
  clear HB6 HB8 HB11 HB13 HXC qn qr qe HM HO HO2 hne c811 c1311
  go_wp2_with fail
  go_loopw [15] (fun i wr => ∃ k : Nat, k ≤ ne ∧ i = .int .i64 k ∧ Hid (Below w11.heap.size w11 wr)) (fun i _ => ne - (intOf i).toNat)
  case atStart => exact ⟨0, by omega, rfl, Below.refl _ _⟩
  case round =>
    obtain ⟨k, hk, rfl, HLP⟩ := hrel
    rename World => wr
    have c811 := (HLP.out.cell (p := ⟨b8, 11, none⟩) HL8).trans HC8.out
    have c1311 := (HLP.out.cell (p := ⟨b13, 11, none⟩) HL13).trans HC13.out
    by_cases hlt : k < ne
    · have HXA := hide (HEV.out.at_ hlt)
      have HXB := hide (HEV2.out.at_ hlt)
      obtain ⟨ad1, x, v1, rfl, hab1, hx1, hw1, hn1, hc1⟩ := HXA.out
      obtain ⟨ad2, x2, v2, rfl, hab2, hx2, hw2, hn2, hc2⟩ := HXB.out
      obtain rfl : x = x2 := Option.some.inj (hx1.symm.trans hx2)
      have HT0 := hide (show TF b8 b13 (.slice (some ad1) ne k1) (.slice (some ad2) ne k2) (ad1.add (k * 6)) (ad2.add (k * 6)) x v1 v2 w11 from ⟨HC8.out, HC13.out, hc1, hc2, hn1.nx, hn2.nx, HL8, HL13, by rw [block_of_add]; exact hab1, by rw [block_of_add]; exact hab2⟩)
      replace HT0 := hide (HT0.out.step HLP.out)
      clear HXA HXB hab1 hx1 hw1 hn1 hc1 hab2 hx2 hw2 hn2 hc2
      go_upto_region 18 with fail
      clear c811 c1311
      refine wp_region_E (fun w' => TF b8 b13 (.slice (some ad1) ne k1) (.slice (some ad2) ne k2) (ad1.add (k * 6)) (ad2.add (k * 6)) x v1 v2 w') (fun _ => True) [] (by kernel_rfl) ?_
      have HT := hide (HT0.out.step (Below.refl _ _).drew)
      replace HLP := hide (HLP.out.trans ((Below.refl w11.heap.size wr).drew))
      clear HT0
      generalize wr.drew = wd at HT HLP ⊢
      refine E_field 0 (some 103) 40 _ 1 ⟨b8, 0, none⟩ ⟨b8, 11, none⟩ rfl (by kernel_rfl) (by rfl) (fun _ _ _ h => h) (by rfl) (fun w => by kernel_rfl) (.both HT.out trivial) ?_
      simp only [Act.put, List.setIfInBounds_toArray, List.set_cons_zero, List.set_cons_succ]
      refine E_load1 false 1 (some 104) 36 _ ⟨b8, 11, none⟩ (.slice (some ad1) ne k1) rfl (by kernel_rfl) (by rfl) (fun _ _ _ h => h) (by rfl) (fun w hS => run_loadVar_one _ _ _ _ Try.underlying36 rfl (hS.1.1)) (.both HT.out trivial) ?_
      simp only [Act.put, List.setIfInBounds_toArray, List.set_cons_zero, List.set_cons_succ]
      refine E_move 2 (some 105) _ (.int .i64 (k : Int)) rfl (by kernel_rfl) (by rfl) (fun _ _ _ h => h) (by rfl) (.both HT.out trivial) ?_
      simp only [Act.put, List.setIfInBounds_toArray, List.set_cons_zero, List.set_cons_succ]
      refine E_index 3 (some 106) _ _ _ (.slice (some ad1) ne k1) (.int .i64 (k : Int)) (.pointer (some (ad1.add (k * 6)))) rfl (by kernel_rfl) (by rfl) (fun _ _ _ h => h) (by rfl) (by rfl) (run_ixa hlt) (.both HT.out trivial) ?_
      simp only [Act.put, List.setIfInBounds_toArray, List.set_cons_zero, List.set_cons_succ]
      refine E_load false 4 (some 107) 51 _ (ad1.add (k * 6)) (evC (x, v1)) _ rfl (by kernel_rfl) (by rfl) (fun _ _ _ h => h) (by rfl) (fun w hS => hS.1.2.2.1) Try.underlying51 rfl sizA (.both HT.out trivial) ?_
      simp only [Act.put, List.setIfInBounds_toArray, List.set_cons_zero, List.set_cons_succ]
      refine E_field 5 (some 108) 40 _ 1 ⟨b13, 0, none⟩ ⟨b13, 11, none⟩ rfl (by kernel_rfl) (by rfl) (fun _ _ _ h => h) (by rfl) (fun w => by kernel_rfl) (.both HT.out trivial) ?_
      simp only [Act.put, List.setIfInBounds_toArray, List.set_cons_zero, List.set_cons_succ]
      refine E_load1 false 6 (some 109) 36 _ ⟨b13, 11, none⟩ (.slice (some ad2) ne k2) rfl (by kernel_rfl) (by rfl) (fun _ _ _ h => h) (by rfl) (fun w hS => run_loadVar_one _ _ _ _ Try.underlying36 rfl (hS.1.2.1)) (.both HT.out trivial) ?_
      simp only [Act.put, List.setIfInBounds_toArray, List.set_cons_zero, List.set_cons_succ]
      refine E_move 7 (some 110) _ (.int .i64 (k : Int)) rfl (by kernel_rfl) (by rfl) (fun _ _ _ h => h) (by rfl) (.both HT.out trivial) ?_
      simp only [Act.put, List.setIfInBounds_toArray, List.set_cons_zero, List.set_cons_succ]
      refine E_index 8 (some 111) _ _ _ (.slice (some ad2) ne k2) (.int .i64 (k : Int)) (.pointer (some (ad2.add (k * 6)))) rfl (by kernel_rfl) (by rfl) (fun _ _ _ h => h) (by rfl) (by rfl) (run_ixa hlt) (.both HT.out trivial) ?_
      simp only [Act.put, List.setIfInBounds_toArray, List.set_cons_zero, List.set_cons_succ]
      refine E_load false 9 (some 112) 51 _ (ad2.add (k * 6)) (evC (x, v2)) _ rfl (by kernel_rfl) (by rfl) (fun _ _ _ h => h) (by rfl) (fun w hS => hS.1.2.2.2.1) Try.underlying51 rfl sizA (.both HT.out trivial) ?_
      simp only [Act.put, List.setIfInBounds_toArray, List.set_cons_zero, List.set_cons_succ]
      refine E_one 10 (by kernel_rfl) (StepE.of 10 (some 113) _ rfl (by rfl) fun o K h2 h3 hKK => ?_)
      unfold Oper.wp execOp
      simp only [h3]
      go_simp
      refine (same_any x x v1 v2 _ HT.out.2.2.2.2.1 HT.out.2.2.2.2.2.1).mono ?_
      rintro e wb ⟨rfl, hb⟩
      rw [sameE_self]
      replace HT := hide (TF.step HT.out hb)
      have HBW := hide hb
      clear hb
      dsimp only
      refine hKK _ _ (.both HT.out trivial) ?_
      clear hKK h2 h3 K o
      try simp only [Act.put, List.setIfInBounds_toArray, List.set_cons_zero, List.set_cons_succ]
      refine E_any false 11 (some 114) _ (.bool false) rfl (by kernel_rfl) (by rfl) (fun _ _ _ h => h) (fun o e w _ => by unfold execOp; simp only [e]; go_simp) (.both HT.out trivial) ?_
      simp only [Act.put, List.setIfInBounds_toArray, List.set_cons_zero, List.set_cons_succ]
      refine wpAnyE_done (by kernel_rfl) ?_ _
      replace HLP := hide (HLP.out.trans (HBW.out.mono HLP.out.size))
      clear HT HBW
      have hne64 := HNE.out
      go_wp2
      go_roundw
      case measure => simp [intOf]; omega
      case rel => exact ⟨k + 1, by omega, by go_num, HLP.out⟩
    · obtain rfl : k = ne := by omega
      clear hlt
      go_wp2_with fail
      refine (wakes_any _).mono ?_
      rintro e w20 ⟨rfl, hb⟩
      have HL20 := hide hb
      clear hb
      go_wp2
      go_ret
      exact ⟨rfl, HW.out.trans ((HW2.out.mono HW.out.size).trans ((HQ.out.chg.below (B := w.heap.size) (fun b q => Nat.le_trans HW.out.size (HF.out b q)) (Nat.le_trans HW.out.size HW2.out.size)).trans (HLP.out.mono (Nat.le_trans HW.out.size HB.out) |>.trans (HL20.out.mono (Nat.le_trans (Nat.le_trans HW.out.size HB.out) HLP.out.size)))))⟩
theorem twice_row (c : Int) (A : Option Addr) (n cap : Nat) (l : List ID) (block : Int) (hb : (Lit.int .i64 block).wf = true) (w : World) (hh : InsAt w w.heap.size A n l) (hc : n ≤ cap) (hm : n < 9223372036854775808) :
    Calls Try.prog 5 #[.agg #[.int .i64 c, .slice A n cap], .int .i64 block] w fun e w' => e = .returned (.bool true) ∧ Below w.heap.size w w' :=
  twice_walk c A n cap l block w hh hc hm (by have := bounds_i64 hb; unfold I64; omega)
end Go.Proofs.Ytepagfkkjlbipaa
