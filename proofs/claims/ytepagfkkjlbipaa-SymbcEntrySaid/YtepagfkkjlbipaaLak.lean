/-
  Contracts of symbc's methods: event, alu, load, store, call. Conditions: those written in each statement.
  Contracts of symbc's methods: alu, load, store, call. Conditions: those written in each statement.
-/
import Derived.Test.YtepagfkkjlbipaaLai
import Derived.Test.YtepagfkkjlbipaaLaj
import Derived.Test.YtepagfkkjlbipaaLaj
section
namespace Go.Proofs.Ytepagfkkjlbipaa
open Go.RowKit
set_option linter.unusedVariables false
set_option linter.unusedSimpArgs false
set_option maxRecDepth 100000
section
variable {base g b : Nat} {F G F1 G1 : Nat → Prop} {m : SM} {ex : ExD} {w : World}
def MEnd (base g b : Nat) (G : Nat → Prop) (ex : ExD) (w : World) (m : SM) (e : Ending) (w' : World) : Prop := e = .returned (.tuple #[]) ∧ ∃ F' G', MG base g b G w F' G' m ex w'
theorem infA : (Try.prog.info? 51).map (fun i => (i.zero, i.size, i.bytes)) = some (some (.agg #[.int .i8 0, .int .i8 0, .int .i64 0, .int .i64 0, .int .i64 0, .slice none 0 0]), 6, 56) := by kernel_rfl
theorem sizE : (Try.prog.info? 36).map (·.size) = some 1 := by kernel_rfl
theorem sizN : (Try.prog.info? 3).map (·.size) = some 1 := by kernel_rfl
theorem own_cells {w : World} {base : Nat} {e : TypeId} {size n : Nat} {v : Value} {xs : List Value} (h : w.ownsRow base e size v n xs) : v.cells = #[v] := by
  rcases h.2 with ⟨rfl, _⟩ | ⟨g, cap, cur, rfl, _⟩ <;> rfl
theorem own_one {w : World} {base : Nat} {e : TypeId} {size n : Nat} {v : Value} {xs : List Value} (h : w.ownsRow base e size v n xs) : v.oneCell' = true := by
  rcases h.2 with ⟨rfl, _⟩ | ⟨g, cap, cur, rfl, _⟩ <;> rfl
set_option maxHeartbeats 4000000 in
theorem event_any (h : MA base g b F G m ex w) (x : EvD) (v : Value) (hv1 : v.oneCell' = true) (hx : x.wf) (hv : NumsF w (Up G b) v x.args) (hlt : m.evs.length < 64) : Calls Try.prog 40 #[.pointer (some ⟨b, 0, none⟩), .agg (evC (x, v)).toArray] w (MEnd base g b G ex w (m.event x)) := by
  obtain ⟨iA, hiA, hzA, hsA, hbA⟩ := info_parts infA
  have IA := hide (And.intro hiA (And.intro hzA (And.intro hsA hbA)))
  have hbl := ((Below.refl w.heap.size w).alloc (Nat.le_refl _) (.cells (evC (x, v)).toArray 51)).drew
  have HG := hide (MG.of_below h hbl)
  have HT := hide (show Blk (w.alloc (.cells (evC (x, v)).toArray 51)).drew w.heap.size 51 (evC (x, v)).toArray from Blk.new w 51 (evC (x, v)).toArray)
  have HV := hide (hv.chg (G := Up G b) (Chg.of_below hbl) (fun k q => .inr q) (fun k q => .inl q))
  obtain ⟨bx, hbx⟩ : ∃ k, w.heap.size = k := ⟨_, rfl⟩
  have HLOW := hide (fun (e : G bx) => by have := (h.low bx e).2; omega : ¬ G bx)
  have hb0 : base ≤ (w.alloc (.cells (evC (x, v)).toArray 51)).drew.heap.size := Nat.le_trans (h.low b h.nb.2).1 (Nat.le_of_lt (Nat.lt_of_lt_of_le h.lt hbl.size))
  have HV1 := hide hv1
  have HX := hide hx
  clear h hv hx hv1 hiA hzA hsA hbA hbl
  go_enter Try.func40, Try.ntmps40
  go_wp2
  obtain ⟨es, q, c12, hBm, hown, hq, hqw, hes⟩ := HG.out.at_.ces
  obtain ⟨A, c, rfl, hAc, _⟩ := ReadsF.of_own (F := fun _ => False) hown (fun _ _ q => q)
  refine wp_region_E (fun w' => Blk w' w.heap.size 51 (evC (x, v)).toArray) (fun w' => w'.cell? ⟨b, 12, none⟩ = some (.slice A m.evs.length c)) [12] (by kernel_rfl) ?_
  generalize (w.alloc (.cells (evC (x, v)).toArray 51)).drew = Wd at HG HT HV hb0 c12 hBm hown hqw ⊢
  rw [hbx] at HT ⊢
  have HS := hide c12
  have HBM := hide hBm
  have HO := hide hown
  have HQ := hide hq
  have HQW := hide hqw
  have HES := hide hes
  have HLT := hide hlt
  clear c12 hBm hown hq hqw hes hlt hAc
  refine E_move 0 (some 4) _ (.pointer (some ⟨b, 0, none⟩)) rfl (by kernel_rfl) (by rfl) (fun _ _ _ h => h) (by rfl) (.both HT.out HS.out) ?_
  simp only [Act.put, List.setIfInBounds_toArray, List.set_cons_zero, List.set_cons_succ]
  refine E_move 1 (some 5) _ (.pointer (some ⟨b, 0, none⟩)) rfl (by kernel_rfl) (by rfl) (fun _ _ _ h => h) (by rfl) (.both HT.out HS.out) ?_
  simp only [Act.put, List.setIfInBounds_toArray, List.set_cons_zero, List.set_cons_succ]
  refine E_nil 2 (some 6) _ ⟨b, 0, none⟩ rfl (by kernel_rfl) (by rfl) (fun _ _ _ h => h) (by rfl) (.both HT.out HS.out) ?_
  simp only [Act.put, List.setIfInBounds_toArray, List.set_cons_zero, List.set_cons_succ]
  refine E_field 3 (some 7) 72 _ 1 ⟨b, 0, none⟩ ⟨b, 1, none⟩ rfl (by kernel_rfl) (by rfl) (fun _ _ _ h => h) (by rfl) (fun w => by kernel_rfl) (.both HT.out HS.out) ?_
  simp only [Act.put, List.setIfInBounds_toArray, List.set_cons_zero, List.set_cons_succ]
  refine E_field 4 (some 8) 40 _ 1 ⟨b, 1, none⟩ ⟨b, 12, none⟩ rfl (by kernel_rfl) (by rfl) (fun _ _ _ h => h) (by rfl) (fun w => by kernel_rfl) (.both HT.out HS.out) ?_
  simp only [Act.put, List.setIfInBounds_toArray, List.set_cons_zero, List.set_cons_succ]
  refine E_load1 true 5 (some 9) 36 _ ⟨b, 12, none⟩ (.slice A m.evs.length c) rfl (by kernel_rfl) (by rfl) (fun _ _ _ h => h) (by rfl) (fun w hS => run_loadVar_one _ _ _ _ Try.underlying36 rfl (hS.2 rfl)) (.both HT.out HS.out) ?_
  simp only [Act.put, List.setIfInBounds_toArray, List.set_cons_zero, List.set_cons_succ]
  refine E_load false 6 (some 10) 51 _ ⟨bx, 0, none⟩ (evC (x, v)) _ rfl (by kernel_rfl) (by rfl) (fun _ _ _ h => h) (by rfl) (fun w hS => blk_list hS.1) Try.underlying51 rfl sizA (.both HT.out HS.out) ?_
  simp only [Act.put, List.setIfInBounds_toArray, List.set_cons_zero, List.set_cons_succ]
  refine E_one 7 (by kernel_rfl) (StepE.slice_one 7 (some 11) _ 51 _ iA _ (.agg (evC (x, v)).toArray) rfl (by rfl) Try.underlying36 IA.out.1 IA.out.2.1 (by rw [IA.out.2.2.1]; decide) (by rw [IA.out.2.2.1]; decide) (by rfl) (by rw [IA.out.2.2.1]; rfl) ?_)
  intro wa ga hga Ba La
  have HBA := hide Ba
  have HLA := hide La
  replace HT := hide (HT.out.below La HT.out.lt)
  replace HS := hide ((La.cell (by exact HBM.out.lt)).trans HS.out)
  clear Ba La
  refine ⟨.both HT.out HS.out, ?_⟩
  simp only [Act.put, List.setIfInBounds_toArray, List.set_cons_zero, List.set_cons_succ]
  refine E_one 8 (by kernel_rfl) (StepE.append 8 (some 12) 36 51 _ _ (b + 1) iA _ 6 56 rfl (by rfl) Try.underlying36 IA.out.1 IA.out.2.1 IA.out.2.2.1 IA.out.2.2.2 rfl (by omega) (.slice A m.evs.length c) m.evs.length (q.flatMap evC) (by rfl) (own_block HO.out (fun k hk => HLA.out.block k (own_ge HO.out k hk).2)) _ (some ⟨ga, 0, none⟩) 1 1 (evC (x, v)) (by rfl) (reads_blk HBA.out 1 6 rfl) (EvD.one HV1.out) (by have := HLT.out; unfold maxLen; omega) (by have := HLT.out; omega) (Nat.le_trans HG.out.at_.lt HLA.out.size) ?_)
  intro es2 wb R2 G2 O2
  have HR2 := hide R2
  have HG2 := hide ((only_of_below HLA.out (Value.ownBlock (.slice A m.evs.length c))).trans G2)
  have HO2 := hide (fun k (hk : es2.ownBlock = some k) => (O2.elim (fun e => .inl (e ▸ hk)) (fun e => .inr (by rw [e] at hk; injection hk with hk; rw [← hk]; exact HLA.out.size)) : (Value.slice A m.evs.length c).ownBlock = some k ∨ Wd.heap.size ≤ k))
  replace HT := hide (HT.out.grown G2 (fun e => HLOW.out (HES.out _ e.symm).1))
  replace HS := hide ((World.cell?_of_block (a := ⟨b, 12, none⟩) (G2.block b (Nat.lt_of_lt_of_le HBM.out.lt HLA.out.size) (fun e => (HES.out _ e.symm).2.2 rfl))).trans HS.out)
  clear R2 G2 O2
  refine ⟨.both HT.out HS.out, ?_⟩
  simp only [Act.put, List.setIfInBounds_toArray, List.set_cons_zero, List.set_cons_succ]
  refine E_nil 9 (some 13) _ ⟨b, 0, none⟩ rfl (by kernel_rfl) (by rfl) (fun _ _ _ h => h) (by rfl) (.both HT.out HS.out) ?_
  simp only [Act.put, List.setIfInBounds_toArray, List.set_cons_zero, List.set_cons_succ]
  refine E_field 10 (some 14) 72 _ 1 ⟨b, 0, none⟩ ⟨b, 1, none⟩ rfl (by kernel_rfl) (by rfl) (fun _ _ _ h => h) (by rfl) (fun w => by kernel_rfl) (.both HT.out HS.out) ?_
  simp only [Act.put, List.setIfInBounds_toArray, List.set_cons_zero, List.set_cons_succ]
  refine E_field 11 (some 15) 40 _ 1 ⟨b, 1, none⟩ ⟨b, 12, none⟩ rfl (by kernel_rfl) (by rfl) (fun _ _ _ h => h) (by rfl) (fun w => by kernel_rfl) (.both HT.out HS.out) ?_
  simp only [Act.put, List.setIfInBounds_toArray, List.set_cons_zero, List.set_cons_succ]
  refine E_one 12 (by kernel_rfl) (StepE.store_at 12 36 _ _ ⟨b, 12, none⟩ es2 _ rfl (by rfl) (by rfl) (by rfl) (run_storeVar_one 36 b 12 72 _ _ (HBM.out.grown HG2.out (fun e => (HES.out _ e.symm).2.2 rfl)) (by rw [List.size_toArray, mC_len HG.out.at_.len]; decide) sizE (own_cells HR2.out) (own_one HR2.out)) (.after (HT.out.far (fun e => HLOW.out (e ▸ HG.out.at_.nb.2)) _) (by kernel_rfl)) ?_)
  simp only [Act.put, List.setIfInBounds_toArray, List.set_cons_zero, List.set_cons_succ]
  refine wpAnyE_done (by kernel_rfl) ?_ _
  go_end0
  exact ⟨rfl, _, _, HG.out.trans (HG.out.at_.push HBM.out HO.out HQ.out HQW.out HES.out HX.out HV.out HLT.out HR2.out HG2.out HO2.out)⟩
end
end Go.Proofs.Ytepagfkkjlbipaa
end
section
namespace Go.Proofs.Ytepagfkkjlbipaa
open Go.RowKit
set_option linter.unusedVariables false
set_option linter.unusedSimpArgs false
set_option maxRecDepth 100000
section
variable {base g b : Nat} {F G F1 G1 : Nat → Prop} {m : SM} {ex : ExD} {w : World}
theorem second_regs (m : SM) (x : ID) : (m.second x).1.regs = m.regs := by
  unfold SM.second
  split
  · rfl
  · split <;> rfl
theorem sizIn : (Try.prog.info? 26).map (·.size) = some 9 := by kernel_rfl
theorem second_i64 (h : MA base g b F G m ex w) {x : ID} (hs : x.byReg = true → 0 ≤ x.src ∧ x.src ≤ 10) : I64 (m.second x).2 := by
  unfold SM.second
  split
  · rename_i hb
    have := hs hb
    exact h.reg_i64 (d := x.src.toNat) (by omega)
  · split <;> exact num_i64 h _
theorem second_wf (h : MA base g b F G m ex w) (x : ID) : WfP (m.second x).1.p ∧ ∀ t ∈ (m.second x).1.p.T, t.wf := by
  unfold SM.second
  split
  · exact ⟨h.pool.wf, h.pool.rng⟩
  · split <;> exact num_wf h _
theorem I8.nat {x : Int} (h : 0 ≤ x ∧ x ≤ 10) : ∃ d : Nat, x = (d : Int) ∧ d < 11 := ⟨x.toNat, by omega, by omega⟩
set_option maxHeartbeats 4000000 in
theorem alu_any (h : MA base g b F G m ex w) (x : ID) (hx : x.wf) (hdst : 0 ≤ x.dst ∧ x.dst ≤ 10) (hs : x.byReg = true → 0 ≤ x.src ∧ x.src ≤ 10) (hwd : -128 < x.width) : Calls Try.prog 22 #[.pointer (some ⟨b, 0, none⟩), .agg x.cells.toArray] w (MEnd base g b G ex w (m.alu x)) := by
  have hb0 : base ≤ w.heap.size := Nat.le_trans (h.low b h.nb.2).1 (Nat.le_of_lt h.lt)
  have hbl := (((Below.refl w.heap.size w).alloc (Nat.le_refl _) (.cells x.cells.toArray 26))).drew
  have HG := hide (MG.of_below h hbl)
  have HB0 := hide (show Blk (w.alloc (.cells x.cells.toArray 26)).drew w.heap.size 26 x.cells.toArray from Blk.new w 26 x.cells.toArray)
  have HLOW := hide (fun (e : G w.heap.size) => by have := (h.low _ e).2; omega : ¬ G w.heap.size)
  obtain ⟨q, hq⟩ : ∃ q, m.second x = q := ⟨_, rfl⟩
  have HN := hide (fun (W : World) (F G : Nat → Prop) (hW : MA base g b F G m ex W) => by have := second_any hW x hx hs hwd; rw [hq] at this; exact this)
  have hqi : I64 q.2 := by rw [← hq]; exact second_i64 h hs
  have hqw : WfP q.1.p ∧ ∀ t ∈ q.1.p.T, t.wf := by rw [← hq]; exact second_wf h x
  have HRQ := hide (show q.1.regs = m.regs by rw [← hq]; exact second_regs m x)
  obtain ⟨d, hr, hd⟩ := I8.nat hdst
  have hri := h.reg_i64 hd
  have hrr : m.reg x.dst = m.regs.getD d 0 := by unfold SM.reg; rw [hr, Int.toNat_natCast]
  obtain ⟨rs, hrs⟩ : ∃ r, opV q.1.p x.op x.width (m.regs.getD d 0) q.2 = r := ⟨_, rfl⟩
  have HO := hide (fun (W : World) (F : Nat → Prop) (hW : PoolAt W base F g q.1.p) (hb : base ≤ W.heap.size) => by obtain ⟨f, hf⟩ := opV_some hW.wf hW.rng x.op x.width (m.regs.getD d 0) q.2; rw [hrs] at hf; exact op_all f x.op x.width _ q.2 hri hqi F q.1.p rs hf W hW hb)
  have HON := hide (show I64 rs.2.1 by rw [← hrs]; exact opV_num hqw.1 hqw.2 _ _ _ _)
  have HNX := hide (show m.alu x = ⟨rs.1, q.1.regs.set d rs.2.1, q.1.evs, if q.1.err = 0 then rs.2.2 else q.1.err⟩ by unfold SM.alu; dsimp only; rw [hq, hrr, hrs]; unfold SM.set SM.keep; rw [hr, Int.toNat_natCast])
  obtain ⟨mq, nq⟩ := q
  obtain ⟨rp, rn, re⟩ := rs
  dsimp only at HN HRQ HO HON HNX
  have HRD := hide hr
  have HD := hide hd
  have hb1 := Nat.le_trans hb0 HG.out.size
  have HM := hide (MG.refl HG.out.at_)
  have HS := hide (show MT b g m.regs (w.alloc (.cells x.cells.toArray 26)).drew from HG.out.at_.mt)
  clear h hx hdst hs hwd hq hqi hqw hri hrr hrs hd hb0 hr hbl
  go_enter Try.func22, Try.ntmps22
  go_wp2
  refine wp_region_E (fun w' => Blk w' w.heap.size 26 x.cells.toArray) (MT b g m.regs) [31] (by kernel_rfl) ?_
  generalize (w.alloc (.cells x.cells.toArray 26)).drew = Wd at HG HM HS HB0 hb1 ⊢
  generalize w.heap.size = bx at HB0 HLOW ⊢
  have HT := hide HB0.out
  refine E_move 0 (some 4) _ (.pointer (some ⟨b, 0, none⟩)) rfl (by kernel_rfl) (by rfl) (fun _ _ _ h => h) (by rfl) (.both HT.out HS.out) ?_
  simp only [Act.put, List.setIfInBounds_toArray, List.set_cons_zero, List.set_cons_succ]
  refine E_field 1 (some 5) 26 _ 5 ⟨bx, 0, none⟩ ⟨bx, 5, none⟩ rfl (by kernel_rfl) (by rfl) (fun _ _ _ h => h) (by rfl) (fun w => by kernel_rfl) (.both HT.out HS.out) ?_
  simp only [Act.put, List.setIfInBounds_toArray, List.set_cons_zero, List.set_cons_succ]
  refine E_load1 false 2 (some 6) 24 _ ⟨bx, 5, none⟩ (.int .i8 x.dst) rfl (by kernel_rfl) (by rfl) (fun _ _ _ h => h) (by rfl) (fun w hS => run_loadVar_one _ _ _ _ Try.underlying24 rfl (hS.1.cell 5)) (.both HT.out HS.out) ?_
  simp only [Act.put, List.setIfInBounds_toArray, List.set_cons_zero, List.set_cons_succ]
  refine E_move 3 (some 7) _ (.pointer (some ⟨b, 0, none⟩)) rfl (by kernel_rfl) (by rfl) (fun _ _ _ h => h) (by rfl) (.both HT.out HS.out) ?_
  simp only [Act.put, List.setIfInBounds_toArray, List.set_cons_zero, List.set_cons_succ]
  refine E_move 4 (some 8) _ (.pointer (some ⟨b, 0, none⟩)) rfl (by kernel_rfl) (by rfl) (fun _ _ _ h => h) (by rfl) (.both HT.out HS.out) ?_
  simp only [Act.put, List.setIfInBounds_toArray, List.set_cons_zero, List.set_cons_succ]
  refine E_nil 5 (some 9) _ ⟨b, 0, none⟩ rfl (by kernel_rfl) (by rfl) (fun _ _ _ h => h) (by rfl) (.both HT.out HS.out) ?_
  simp only [Act.put, List.setIfInBounds_toArray, List.set_cons_zero, List.set_cons_succ]
  refine E_field 6 (some 10) 72 _ 0 ⟨b, 0, none⟩ ⟨b, 0, none⟩ rfl (by kernel_rfl) (by rfl) (fun _ _ _ h => h) (by rfl) (fun w => by kernel_rfl) (.both HT.out HS.out) ?_
  simp only [Act.put, List.setIfInBounds_toArray, List.set_cons_zero, List.set_cons_succ]
  refine E_load1 true 7 (some 11) 30 _ ⟨b, 0, none⟩ (.pointer (some ⟨g, 0, none⟩)) rfl (by kernel_rfl) (by rfl) (fun _ _ _ h => h) (by rfl) (fun w hS => run_loadVar_one _ _ _ _ Try.underlying30 rfl (hS.2 rfl).1) (.both HT.out HS.out) ?_
  simp only [Act.put, List.setIfInBounds_toArray, List.set_cons_zero, List.set_cons_succ]
  refine E_field 8 (some 12) 26 _ 1 ⟨bx, 0, none⟩ ⟨bx, 1, none⟩ rfl (by kernel_rfl) (by rfl) (fun _ _ _ h => h) (by rfl) (fun w => by kernel_rfl) (.both HT.out HS.out) ?_
  simp only [Act.put, List.setIfInBounds_toArray, List.set_cons_zero, List.set_cons_succ]
  refine E_load1 false 9 (some 13) 24 _ ⟨bx, 1, none⟩ (.int .i8 x.op) rfl (by kernel_rfl) (by rfl) (fun _ _ _ h => h) (by rfl) (fun w hS => run_loadVar_one _ _ _ _ Try.underlying24 rfl (hS.1.cell 1)) (.both HT.out HS.out) ?_
  simp only [Act.put, List.setIfInBounds_toArray, List.set_cons_zero, List.set_cons_succ]
  refine E_field 10 (some 14) 26 _ 2 ⟨bx, 0, none⟩ ⟨bx, 2, none⟩ rfl (by kernel_rfl) (by rfl) (fun _ _ _ h => h) (by rfl) (fun w => by kernel_rfl) (.both HT.out HS.out) ?_
  simp only [Act.put, List.setIfInBounds_toArray, List.set_cons_zero, List.set_cons_succ]
  refine E_load1 false 11 (some 15) 24 _ ⟨bx, 2, none⟩ (.int .i8 x.width) rfl (by kernel_rfl) (by rfl) (fun _ _ _ h => h) (by rfl) (fun w hS => run_loadVar_one _ _ _ _ Try.underlying24 rfl (hS.1.cell 2)) (.both HT.out HS.out) ?_
  simp only [Act.put, List.setIfInBounds_toArray, List.set_cons_zero, List.set_cons_succ]
  refine E_move 12 (some 16) _ (.pointer (some ⟨b, 0, none⟩)) rfl (by kernel_rfl) (by rfl) (fun _ _ _ h => h) (by rfl) (.both HT.out HS.out) ?_
  simp only [Act.put, List.setIfInBounds_toArray, List.set_cons_zero, List.set_cons_succ]
  refine E_field 13 (some 17) 26 _ 5 ⟨bx, 0, none⟩ ⟨bx, 5, none⟩ rfl (by kernel_rfl) (by rfl) (fun _ _ _ h => h) (by rfl) (fun w => by kernel_rfl) (.both HT.out HS.out) ?_
  simp only [Act.put, List.setIfInBounds_toArray, List.set_cons_zero, List.set_cons_succ]
  refine E_load1 false 14 (some 18) 24 _ ⟨bx, 5, none⟩ (.int .i8 x.dst) rfl (by kernel_rfl) (by rfl) (fun _ _ _ h => h) (by rfl) (fun w hS => run_loadVar_one _ _ _ _ Try.underlying24 rfl (hS.1.cell 5)) (.both HT.out HS.out) ?_
  simp only [Act.put, List.setIfInBounds_toArray, List.set_cons_zero, List.set_cons_succ]
  refine E_nil 15 (some 19) _ ⟨b, 0, none⟩ rfl (by kernel_rfl) (by rfl) (fun _ _ _ h => h) (by rfl) (.both HT.out HS.out) ?_
  simp only [Act.put, List.setIfInBounds_toArray, List.set_cons_zero, List.set_cons_succ]
  refine E_field 16 (some 20) 72 _ 1 ⟨b, 0, none⟩ ⟨b, 1, none⟩ rfl (by kernel_rfl) (by rfl) (fun _ _ _ h => h) (by rfl) (fun w => by kernel_rfl) (.both HT.out HS.out) ?_
  simp only [Act.put, List.setIfInBounds_toArray, List.set_cons_zero, List.set_cons_succ]
  refine E_field 17 (some 21) 40 _ 0 ⟨b, 1, none⟩ ⟨b, 1, none⟩ rfl (by kernel_rfl) (by rfl) (fun _ _ _ h => h) (by rfl) (fun w => by kernel_rfl) (.both HT.out HS.out) ?_
  simp only [Act.put, List.setIfInBounds_toArray, List.set_cons_zero, List.set_cons_succ]
  refine E_index 18 (some 22) _ _ _ (.pointer (some ⟨b, 1, none⟩)) (.int .i8 x.dst) (.pointer (some ⟨b, 1 + d, none⟩)) rfl (by kernel_rfl) (by rfl) (fun _ _ _ h => h) (by rfl) (by rfl) (run_at11 b HRD.out HD.out) (.both HT.out HS.out) ?_
  simp only [Act.put, List.setIfInBounds_toArray, List.set_cons_zero, List.set_cons_succ]
  refine E_load1 true 19 (some 23) 3 _ ⟨b, 1 + d, none⟩ (.int .i64 (m.regs.getD d 0)) rfl (by kernel_rfl) (by rfl) (fun _ _ _ h => h) (by rfl) (fun w hS => run_loadVar_one _ _ _ _ Try.underlying3 rfl ((hS.2 rfl).2 d HD.out)) (.both HT.out HS.out) ?_
  simp only [Act.put, List.setIfInBounds_toArray, List.set_cons_zero, List.set_cons_succ]
  refine E_move 20 (some 24) _ (.pointer (some ⟨b, 0, none⟩)) rfl (by kernel_rfl) (by rfl) (fun _ _ _ h => h) (by rfl) (.both HT.out HS.out) ?_
  simp only [Act.put, List.setIfInBounds_toArray, List.set_cons_zero, List.set_cons_succ]
  refine E_load false 21 (some 25) 26 _ ⟨bx, 0, none⟩ x.cells _ rfl (by kernel_rfl) (by rfl) (fun _ _ _ h => h) (by rfl) (fun w hS => blk_list hS.1) Try.underlying26 rfl sizIn (.both HT.out HS.out) ?_
  simp only [Act.put, List.setIfInBounds_toArray, List.set_cons_zero, List.set_cons_succ]
  refine E_nil 27 (some 31) _ ⟨b, 0, none⟩ rfl (by kernel_rfl) (by rfl) (fun _ _ _ h => h) (by rfl) (.both HT.out HS.out) ?_
  simp only [Act.put, List.setIfInBounds_toArray, List.set_cons_zero, List.set_cons_succ]
  refine E_field 28 (some 32) 72 _ 1 ⟨b, 0, none⟩ ⟨b, 1, none⟩ rfl (by kernel_rfl) (by rfl) (fun _ _ _ h => h) (by rfl) (fun w => by kernel_rfl) (.both HT.out HS.out) ?_
  simp only [Act.put, List.setIfInBounds_toArray, List.set_cons_zero, List.set_cons_succ]
  refine E_field 29 (some 33) 40 _ 0 ⟨b, 1, none⟩ ⟨b, 1, none⟩ rfl (by kernel_rfl) (by rfl) (fun _ _ _ h => h) (by rfl) (fun w => by kernel_rfl) (.both HT.out HS.out) ?_
  simp only [Act.put, List.setIfInBounds_toArray, List.set_cons_zero, List.set_cons_succ]
  refine E_one 22 (by kernel_rfl) (StepE.of 22 (some 26) _ rfl (by rfl) fun o K h2 h3 hKK => ?_)
  unfold Oper.wp execOp
  simp only [h3]
  go_simp
  refine (HN.out _ _ _ HM.out.at_).mono ?_
  rintro e wq ⟨rfl, _, Fq, Gq, hmq⟩
  replace HM := hide (HM.out.trans hmq)
  replace HT := hide (HM.out.blk HB0.out HLOW.out).1
  replace HS := hide (show MT b g m.regs wq from HRQ.out ▸ HM.out.at_.mt)
  clear hmq
  dsimp only
  refine hKK _ _ (.both HT.out HS.out) ?_
  clear hKK h2 h3 K o
  try simp only [Act.put, List.setIfInBounds_toArray, List.set_cons_zero, List.set_cons_succ]
  refine E_one 23 (by kernel_rfl) (StepE.of 23 (some 27) _ rfl (by rfl) fun o K h2 h3 hKK => ?_)
  unfold Oper.wp execOp
  simp only [h3]
  go_simp
  refine (HO.out _ _ HM.out.at_.pool (Nat.le_trans hb1 HM.out.size)).mono ?_
  rintro e wq ⟨rfl, Fq, hpq⟩
  replace HM := hide (HM.out.trans (HM.out.at_.pg hpq))
  replace HT := hide (HM.out.blk HB0.out HLOW.out).1
  replace HS := hide (show MT b g m.regs wq from HRQ.out ▸ HM.out.at_.mt)
  clear hpq
  dsimp only
  refine hKK _ _ (.both HT.out HS.out) ?_
  clear hKK h2 h3 K o
  try simp only [Act.put, List.setIfInBounds_toArray, List.set_cons_zero, List.set_cons_succ]
  refine E_any false 24 (some 28) _ (.int .i64 rn) rfl (by kernel_rfl) (by rfl) (fun _ _ _ h => h) (fun o e w _ => by unfold execOp; simp only [e]; go_simp) (.both HT.out HS.out) ?_
  simp only [Act.put, List.setIfInBounds_toArray, List.set_cons_zero, List.set_cons_succ]
  refine E_any false 25 (some 29) _ (.int .i64 re) rfl (by kernel_rfl) (by rfl) (fun _ _ _ h => h) (fun o e w _ => by unfold execOp; simp only [e]; go_simp) (.both HT.out HS.out) ?_
  simp only [Act.put, List.setIfInBounds_toArray, List.set_cons_zero, List.set_cons_succ]
  refine E_one 26 (by kernel_rfl) (StepE.of 26 (some 30) _ rfl (by rfl) fun o K h2 h3 hKK => ?_)
  unfold Oper.wp execOp
  simp only [h3]
  go_simp
  refine (made_any HM.out.at_ (rn) (re) HON.out).mono ?_
  rintro e wq ⟨rfl, _, Fq, Gq, hmq⟩
  replace HM := hide (HM.out.trans hmq)
  replace HT := hide (HM.out.blk HB0.out HLOW.out).1
  replace HS := hide (show MT b g m.regs wq from HRQ.out ▸ HM.out.at_.mt)
  clear hmq
  dsimp only
  refine hKK _ _ (.both HT.out HS.out) ?_
  clear hKK h2 h3 K o
  try simp only [Act.put, List.setIfInBounds_toArray, List.set_cons_zero, List.set_cons_succ]
  refine E_index 30 (some 34) _ _ _ (.pointer (some ⟨b, 1, none⟩)) (.int .i8 x.dst) (.pointer (some ⟨b, 1 + d, none⟩)) rfl (by kernel_rfl) (by rfl) (fun _ _ _ h => h) (by rfl) (by rfl) (run_at11 b HRD.out HD.out) (.both HT.out HS.out) ?_
  simp only [Act.put, List.setIfInBounds_toArray, List.set_cons_zero, List.set_cons_succ]
  obtain ⟨es, qe, hBs, _⟩ := HM.out.at_.box
  have HM2 := hide (HM.out.trans (HM.out.at_.setReg HD.out HON.out))
  refine E_one 31 (by kernel_rfl) (StepE.store_at 31 3 _ _ ⟨b, 1 + d, none⟩ (.int .i64 rn) _ rfl (by rfl) (by rfl) (by rfl) (run_storeVar_one 3 b (1 + d) 72 _ _ hBs (by rw [List.size_toArray, mC_len HM.out.at_.len]; have := HD.out; omega) sizN rfl rfl) (.after (HM2.out.blk HB0.out HLOW.out).1 (by kernel_rfl)) ?_)
  clear hBs
  simp only [Act.put, List.setIfInBounds_toArray, List.set_cons_zero, List.set_cons_succ]
  refine wpAnyE_done (by kernel_rfl) ?_ _
  go_end0
  rw [HNX.out]
  exact ⟨rfl, _, _, HG.out.trans HM2.out⟩
end
end Go.Proofs.Ytepagfkkjlbipaa
end
