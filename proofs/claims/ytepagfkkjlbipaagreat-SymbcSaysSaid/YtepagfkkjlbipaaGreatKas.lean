/-
  Op and Cond within a pool that is not near its limits refuse nothing, put few terms, and these no deeper than by one. Conditions: those written in each statement.
  Contracts of symbc's methods: event, alu, load, store, call. Conditions: those written in each statement.
-/
import Derived.Test.YtepagfkkjlbipaaGreatKar
import Derived.Test.YtepagfkkjlbipaaGreatKaq
import Derived.Test.YtepagfkkjlbipaaGreatKag
section
namespace Go.Proofs.YtepagfkkjlbipaaGreat
open Go.RowKit
set_option linter.unusedVariables false
set_option linter.unusedSimpArgs false
set_option maxRecDepth 100000
theorem operand_aa {p : PS} (h : AA p) (hw : WfP p) (x a : Int) : AA (operandP p x a).1 := by
 rcases operand_cases p x a with ⟨_, e⟩ | ⟨_, e⟩ | ⟨_, e⟩ <;> rw [e]
 ·exact h.putR hw (.inl (by show (0 : Int) ≠ 2; decide))
 ·exact h
 ·exact h
theorem both_aa {p : PS} (h : AA p) (hw : WfP p) (hr : ∀ t ∈ p.T, t.wf) {a b : Int} (ha : I64 a) (x : Int) : AA (bothP p x a b).1 := by
 have h1 := operand_aa h hw x a
 have h2 := (operand_i64 hw hr ha x).2.1
 unfold bothP
 dsimp only
 split
 ·exact operand_aa h1 h2 x b
 ·exact h1
theorem AA.bind {r s : RS} {k : PS → Int → Option RS} (h : AA r.1) (hk : r.2.2 = 0 → ∀ s, k r.1 r.2.1 = some s → AA s.1) (hs : bindR r k = some s) : AA s.1 := by
 unfold bindR at hs
 split at hs
 ·rename_i h0; exact hk h0 s hs
 ·injection hs with hs; subst hs; exact h
/-! ### Op within the limits -/
/-- What a pool must be. -/
structure Rm (p : PS) (k : Nat) : Prop where
 wf : WfP p
 rng : ∀ t ∈ p.T, t.wf
 nz : NZ p
 aa : AA p
 room : p.T.length + k ≤ 4000
theorem Rm.less {p : PS} {j k : Nat} (h : Rm p k) (hj : j ≤ k) : Rm p j := ⟨h.wf, h.rng, h.nz, h.aa, by have := h.room; omega⟩
theorem Rm.const {p : PS} {k : Nat} (h : Rm p (k + 1)) {n : Int} (hn : U64 n) : Rm (putR p (constT n)).1 k ∧ Fit p (putR p (constT n)) 1 1 ∧ hasB (putR p (constT n)).1.T (putR p (constT n)).2.1 = true ∧ Ext p (putR p (constT n)).1 ∧ (atP (putR p (constT n)).1.T (putR p (constT n)).2.1).kind = 0 := by
 have hf := const_fit h.wf n (by have := h.room; omega)
 have hg := Good.put h.wf h.rng (constT_wf hn)
 have hat := (put_at (p := p) (t := constT n) hf.err).2
 refine ⟨⟨hg.wf, hg.rng, h.nz.putR h.wf (by show (0 : Int) ≠ 3; decide), h.aa.putR h.wf (.inl (by show (0 : Int) ≠ 2; decide)), ?_⟩, hf, hg.has hf.err, hg.ext, ?_⟩
 ·have := hf.few
  have := h.room
  omega
 ·show (atP (putP p (constT n)).T (putN p (constT n)).1).kind = 0
  rw [hat]
  rfl
/-- Both operands: what stands behind them. -/
theorem Rm.both {p : PS} {k : Nat} (h : Rm p (k + 2)) {x a b : Int} (hx : x = 32 ∨ x = 64) (ha : hasB p.T a = true) (hb : hasB p.T b = true) :
  Rm (bothP p x a b).1 k ∧ (bothP p x a b).2.2.2 = 0 ∧ (bothP p x a b).1.T.length ≤ p.T.length + 2 ∧ Ext p (bothP p x a b).1 ∧
  hasB (bothP p x a b).1.T (bothP p x a b).2.1 = true ∧ hasB (bothP p x a b).1.T (bothP p x a b).2.2.1 = true ∧
  dpP (bothP p x a b).1 (bothP p x a b).2.1 ≤ dpP p a ∧ dpP (bothP p x a b).1 (bothP p x a b).2.2.1 ≤ dpP p b := by
 have hf := both_fit h.wf h.rng (x := x) ha hb (by have := h.room; omega)
 have hc := both_facts h.wf h.rng ha hb hf.1
 have hw2 := both_wf h.wf h.rng (has_i64 h.wf ha) (has_i64 h.wf hb) x
 exact ⟨⟨hw2.1, hw2.2, both_nz (b := b) h.nz h.wf h.rng (has_i64 h.wf ha) x, both_aa (b := b) h.aa h.wf h.rng (has_i64 h.wf ha) x, by have := h.room; have := hf.2.1; omega⟩, hf.1, hf.2.1, both_ext _ _ _ _, hc.1, hc.2.1, hf.2.2.1, hf.2.2.2⟩
/-! ### Cond within the limits -/
end Go.Proofs.YtepagfkkjlbipaaGreat
end
section
namespace Go.Proofs.YtepagfkkjlbipaaGreat
open Go.RowKit
set_option linter.unusedVariables false
set_option linter.unusedSimpArgs false
set_option maxRecDepth 100000
section
variable {base g b : Nat} {F G F1 G1 : Nat → Prop} {m : SM} {ex : ExD} {w : World}
def MEnd (base g b : Nat) (G : Nat → Prop) (ex : ExD) (w : World) (m : SM) (e : Ending) (w' : World) : Prop := e = .returned (.tuple #[]) ∧ ∃ F' G', MG base g b G w F' G' m ex w'
theorem infA : (Tryz.prog.info? 72).map (fun i => (i.zero, i.size, i.bytes)) = some (some (.agg #[.int .i8 0, .int .i8 0, .int .i64 0, .int .i64 0, .int .i64 0, .slice none 0 0]), 6, 56) := by kernel_rfl
theorem sizE : (Tryz.prog.info? 61).map (·.size) = some 1 := by kernel_rfl
theorem sizN : (Tryz.prog.info? 3).map (·.size) = some 1 := by kernel_rfl
theorem own_cells {w : World} {base : Nat} {e : TypeId} {size n : Nat} {v : Value} {xs : List Value} (h : w.ownsRow base e size v n xs) : v.cells = #[v] := by
 rcases h.2 with ⟨rfl, _⟩ | ⟨g, cap, cur, rfl, _⟩ <;> rfl
theorem own_one {w : World} {base : Nat} {e : TypeId} {size n : Nat} {v : Value} {xs : List Value} (h : w.ownsRow base e size v n xs) : v.oneCell' = true := by
 rcases h.2 with ⟨rfl, _⟩ | ⟨g, cap, cur, rfl, _⟩ <;> rfl
set_option maxHeartbeats 4000000 in
theorem event_any (h : MA base g b F G m ex w) (x : EvD) (v : Value) (hv1 : v.oneCell' = true) (hx : x.wf) (hv : NumsF w (Up G b) v x.args) (hlt : m.evs.length < 64) : Calls Tryz.prog 78 #[.pointer (some ⟨b, 0, none⟩), .agg (evC (x, v)).toArray] w (MEnd base g b G ex w (m.event x)) := by
 obtain ⟨iA, hiA, hzA, hsA, hbA⟩ := info_parts infA
 have IA := hide (And.intro hiA (And.intro hzA (And.intro hsA hbA)))
 have hbl := ((Below.refl w.heap.size w).alloc (Nat.le_refl _) (.cells (evC (x, v)).toArray 72)).drew
 have HG := hide (MG.of_below h hbl)
 have HT := hide (show Blk (w.alloc (.cells (evC (x, v)).toArray 72)).drew w.heap.size 72 (evC (x, v)).toArray from Blk.new w 72 (evC (x, v)).toArray)
 have HV := hide (hv.chg (G := Up G b) (Chg.of_below hbl) (fun k q => .inr q) (fun k q => .inl q))
 obtain ⟨bx, hbx⟩ : ∃ k, w.heap.size = k := ⟨_, rfl⟩
 have HLOW := hide (fun (e : G bx) => by have := (h.low bx e).2; omega : ¬ G bx)
 have hb0 : base ≤ (w.alloc (.cells (evC (x, v)).toArray 72)).drew.heap.size := Nat.le_trans (h.low b h.nb.2).1 (Nat.le_of_lt (Nat.lt_of_lt_of_le h.lt hbl.size))
 have HV1 := hide hv1
 have HX := hide hx
 clear h hv hx hv1 hiA hzA hsA hbA hbl
 go_enter Tryz.func78, Tryz.ntmps78
 go_wp2
 obtain ⟨es, q, c12, hBm, hown, hq, hqw, hes⟩ := HG.out.at_.ces
 obtain ⟨A, c, rfl, hAc, _⟩ := ReadsF.of_own (F := fun _ => False) hown (fun _ _ q => q)
 refine wp_region_E (fun w' => Blk w' w.heap.size 72 (evC (x, v)).toArray) (fun w' => w'.cell? ⟨b, 12, none⟩ = some (.slice A m.evs.length c)) [12] (by kernel_rfl) ?_
 generalize (w.alloc (.cells (evC (x, v)).toArray 72)).drew = Wd at HG HT HV hb0 c12 hBm hown hqw ⊢
 rw [hbx] at HT ⊢
 have HS := hide c12
 have HBM := hide hBm
 have HO := hide hown
 have HQ := hide hq
 have HQW := hide hqw
 have HES := hide hes
 have HLT := hide hlt
 clear c12 hBm hown hq hqw hes hlt hAc
 refine em 0 (.pointer (some ⟨b, 0, none⟩)) (.both HT.out HS.out) ?_
 simp only [sL]
 refine em 1 (.pointer (some ⟨b, 0, none⟩)) (.both HT.out HS.out) ?_
 simp only [sL]
 refine ez 2 ⟨b, 0, none⟩ (.both HT.out HS.out) ?_
 simp only [sL]
 refine ef 3 ⟨b, 0, none⟩ ⟨b, 1, none⟩ (.both HT.out HS.out) ?_
 simp only [sL]
 refine ef 4 ⟨b, 1, none⟩ ⟨b, 12, none⟩ (.both HT.out HS.out) ?_
 simp only [sL]
 refine el true 5 ⟨b, 12, none⟩ (.slice A m.evs.length c) Tryz.underlying61 (fun w hS => (hS.2 rfl)) (.both HT.out HS.out) ?_
 simp only [sL]
 refine eL false 6 ⟨bx, 0, none⟩ (evC (x, v)) (fun w hS => blk_list hS.1) Tryz.underlying72 sizA (.both HT.out HS.out) ?_
 simp only [sL]
 refine E_one 7 (by kernel_rfl) (StepE.slice_one 7 (some 11) _ 72 _ iA _ (.agg (evC (x, v)).toArray) rfl (by rfl) Tryz.underlying61 IA.out.1 IA.out.2.1 (by rw [IA.out.2.2.1]; decide) (by rw [IA.out.2.2.1]; decide) (by rfl) (by rw [IA.out.2.2.1]; rfl) ?_)
 intro wa ga hga Ba La
 have HBA := hide Ba
 have HLA := hide La
 replace HT := hide (HT.out.below La HT.out.lt)
 replace HS := hide ((La.cell (by exact HBM.out.lt)).trans HS.out)
 clear Ba La
 refine ⟨.both HT.out HS.out, ?_⟩
 simp only [pt, pn, sL]
 refine E_one 8 (by kernel_rfl) (StepE.append 8 (some 12) 61 72 _ _ (b + 1) iA _ 6 56 rfl (by rfl) Tryz.underlying61 IA.out.1 IA.out.2.1 IA.out.2.2.1 IA.out.2.2.2 rfl (by omega) (.slice A m.evs.length c) m.evs.length (q.flatMap evC) (by rfl) (own_block HO.out (fun k hk => HLA.out.block k (own_ge HO.out k hk).2)) _ (some ⟨ga, 0, none⟩) 1 1 (evC (x, v)) (by rfl) (reads_blk HBA.out 1 6 rfl) (EvD.one HV1.out) (by have := HLT.out; unfold maxLen; omega) (by have := HLT.out; omega) (Nat.le_trans HG.out.at_.lt HLA.out.size) ?_)
 intro es2 wb R2 G2 O2
 have HR2 := hide R2
 have HG2 := hide ((only_of_below HLA.out (Value.ownBlock (.slice A m.evs.length c))).trans G2)
 have HO2 := hide (fun k (hk : es2.ownBlock = some k) => (O2.elim (fun e => .inl (e ▸ hk)) (fun e => .inr (by rw [e] at hk; injection hk with hk; rw [← hk]; exact HLA.out.size)) : (Value.slice A m.evs.length c).ownBlock = some k ∨ Wd.heap.size ≤ k))
 replace HT := hide (HT.out.grown G2 (fun e => HLOW.out (HES.out _ e.symm).1))
 replace HS := hide ((World.cell?_of_block (a := ⟨b, 12, none⟩) (G2.block b (Nat.lt_of_lt_of_le HBM.out.lt HLA.out.size) (fun e => (HES.out _ e.symm).2.2 rfl))).trans HS.out)
 clear R2 G2 O2
 refine ⟨.both HT.out HS.out, ?_⟩
 simp only [pt, pn, sL]
 refine ez 9 ⟨b, 0, none⟩ (.both HT.out HS.out) ?_
 simp only [sL]
 refine ef 10 ⟨b, 0, none⟩ ⟨b, 1, none⟩ (.both HT.out HS.out) ?_
 simp only [sL]
 refine ef 11 ⟨b, 1, none⟩ ⟨b, 12, none⟩ (.both HT.out HS.out) ?_
 simp only [sL]
 refine E_one 12 (by kernel_rfl) (StepE.store_at 12 61 _ _ ⟨b, 12, none⟩ es2 _ rfl (by rfl) (by rfl) (by rfl) (run_storeVar_one 61 b 12 114 _ _ (HBM.out.grown HG2.out (fun e => (HES.out _ e.symm).2.2 rfl)) (by rw [List.size_toArray, mC_len HG.out.at_.len]; decide) sizE (own_cells HR2.out) (own_one HR2.out)) (.after (HT.out.far (fun e => HLOW.out (e ▸ HG.out.at_.nb.2)) _) (by kernel_rfl)) ?_)
 simp only [pt, pn, sL]
 refine wpAnyE_done (by kernel_rfl) ?_ _
 go_end0
 exact ⟨rfl, _, _, HG.out.trans (HG.out.at_.push HBM.out HO.out HQ.out HQW.out HES.out HX.out HV.out HLT.out HR2.out HG2.out HO2.out)⟩
end
end Go.Proofs.YtepagfkkjlbipaaGreat
end
