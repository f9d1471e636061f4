/-
  Parts of the proof of SymbcSound. Conditions: those written in each statement.
-/
import Derived.Test.YtepagfkkjlbipaaGreatKaz
import Derived.Test.YtepagfkkjlbipaaGreatBm
import Derived.Test.YtepagfkkjlbipaaGreatZg
set_option linter.unusedVariables false
set_option linter.unusedSimpArgs false
set_option maxHeartbeats 64000000
set_option maxRecDepth 100000
namespace Go.Proofs.YtepagfkkjlbipaaGreat
open Tryz
section
open Go.RowKit
def srcC (regs : List Int) (es : Value) (ex : ExD) : List Value := rgC regs ++ [es, .int .i8 ex.kind, .int .i64 ex.v, .int .i64 ex.tgt, .int .i64 ex.els]
theorem mC_src (g : Nat) (regs : List Int) (es : Value) (ex : ExD) (er : Int) : mC g regs es ex er = .pointer (some ⟨g, 0, none⟩) :: (srcC regs es ex ++ [.int .i64 er]) := by
 unfold mC srcC rgC
 simp
theorem srcC_len {regs : List Int} (h : regs.length = 11) (es : Value) (ex : ExD) : (srcC regs es ex).length = 16 := by unfold srcC rgC; simp; omega
theorem srcC_one {regs : List Int} {es : Value} (h : es.oneCell' = true) (ex : ExD) : ∀ u ∈ srcC regs es ex, u.oneCell' = true := by
 intro u hu
 unfold srcC at hu
 rcases List.mem_append.1 hu with hu | hu
 ·exact rgC_one _ _ hu
 ·simp only [List.mem_cons, List.not_mem_nil, or_false] at hu
  rcases hu with rfl | rfl | rfl | rfl | rfl
  ·exact h
  all_goals rfl
def zeroS : List Value := srcC zeroRg (.slice none 0 0) zeroEx
theorem zeroS_len : zeroS.length = 16 := rfl
theorem zeroS_one : ∀ u ∈ zeroS, u.oneCell' = true := srcC_one rfl _
theorem sizS : (prog.info? 65).map (·.size) = some 16 := by kernel_rfl
theorem zeroSV : ∀ w : World, (zeroValue 65).run prog w = .ok (.agg zeroS.toArray) w := fun w => by kernel_rfl
theorem build_zs (w : World) : (Instr.build 65 #[]).run prog w = .ok (.agg zeroS.toArray) w := by kernel_rfl
theorem build_src {regs : List Int} (h : regs.length = 11) (w : World) : (Instr.build 65 #[(0, .agg (rgC regs).toArray)]).run prog w = .ok (.agg (srcC regs (.slice none 0 0) zeroEx).toArray) w := by
 match regs, h with
 | [a0, a1, a2, a3, a4, a5, a6, a7, a8, a9, a10], _ => exact run_build w 65 _ _ (by kernel_rfl)
theorem build_mach {regs : List Int} (h : regs.length = 11) (g : Nat) (w : World) : (Instr.build 114 #[(0, .pointer (some ⟨g, 0, none⟩)), (1, .agg (srcC regs (.slice none 0 0) zeroEx).toArray)]).run prog w = .ok (.agg (mC g regs (.slice none 0 0) zeroEx 0).toArray) w := by
 match regs, h with
 | [a0, a1, a2, a3, a4, a5, a6, a7, a8, a9, a10], _ => exact run_build w 114 _ _ (by kernel_rfl)
def kindsC (b : Nat) : List Value := kindsL.map (methV b)
theorem kinds_at {b f : Nat} {k : Nat} (h : kindsL[k]? = some f) : (kindsC b)[k]? = some (methV b f) := by unfold kindsC; rw [List.getElem?_map, h]; rfl
theorem sizK : (prog.info? 116).map (·.size) = some 7 := by kernel_rfl
theorem build_kinds (b : Nat) (w : World) : (Instr.build 116 #[(0, methV b 43), (1, methV b 44), (2, methV b 45), (3, methV b 46), (4, methV b 46), (5, methV b 47), (6, methV b 46)]).run prog w = .ok (.agg (kindsC b).toArray) w := run_build w 116 _ _ (by kernel_rfl)
theorem kindsC_one (b : Nat) : ∀ u ∈ kindsC b, u.oneCell' = true := by
 intro u hu
 obtain ⟨_, _, rfl⟩ := List.mem_map.1 hu
 rfl
theorem sizB : (prog.info? 44).map (·.size) = some 3 := by kernel_rfl
theorem bkC_one (x : BD) {s : Value} (h : s.oneCell' = true) : ∀ u ∈ bkC (x, s), u.oneCell' = true := by
 intro u hu
 unfold bkC at hu
 simp only [List.mem_cons, List.not_mem_nil, or_false] at hu
 rcases hu with rfl | rfl | rfl
 ·rfl
 ·rfl
 ·exact h
def okK (p : PS) (regs : List Int) (ok : Bool) (k : Nat) : Bool := ok && (regs.take k).all fun r => decide (0 ≤ r) && decide (r < (p.T.length : Int))
theorem okK_succ {p : PS} {regs : List Int} {ok : Bool} {k : Nat} {r : Int} (h : regs[k]? = some r) : okK p regs ok (k + 1) = (okK p regs ok k && (decide (0 ≤ r) && decide (r < (p.T.length : Int)))) := by
 unfold okK
 rw [List.take_add_one, h, List.all_append, Bool.and_assoc]
 simp
theorem okK_all {p : PS} {regs : List Int} {ok : Bool} (h : regs.length = 11) : okK p regs ok 11 = (ok && regsB p regs) := by
 unfold okK regsB
 rw [List.take_of_length_le (by omega)]
def RunP (base g : Nat) (F : Nat → Prop) (w : World) (r : RunD) (e : Ending) (w' : World) : Prop :=
 ∃ es F', e = .returned (.tuple #[.agg (srcC r.regs es r.ex).toArray, .int .i64 r.err]) ∧ PG base g F w F' r.p w' ∧ EvsAt w' (fun k => F' k ∨ k < w.heap.size) es r.evs ∧ es.oneCell' = true
theorem run_bad {p : PS} {c : Int} {l : List ID} {block : Int} {regs : List Int} (h : (chkP c l).2 ≠ 0) : runV p c l block regs = ⟨p, zeroRg, [], zeroEx, (chkP c l).2⟩ := by unfold runV; rw [if_pos h]
theorem run_arg {p : PS} {c : Int} {l : List ID} {block : Int} {regs : List Int} (h : (chkP c l).2 = 0) (h2 : askB p l block regs = false) : runV p c l block regs = ⟨p, zeroRg, [], zeroEx, 2⟩ := by unfold runV; rw [if_neg (by rw [h]; simp), if_pos h2]
theorem run_go {p : PS} {c : Int} {l : List ID} {block : Int} {regs : List Int} (h : (chkP c l).2 = 0) (h2 : askB p l block regs = true) : runV p c l block regs =
  if (goV p l block regs).err ≠ 0 then ⟨(goV p l block regs).p, zeroRg, [], zeroEx, (goV p l block regs).err⟩
  else if ((goV p l block regs).ends (l.getD ((blkAt l block).upto - 1).toNat noIns) (blkAt l block).next).1.err ≠ 0 then ⟨((goV p l block regs).ends (l.getD ((blkAt l block).upto - 1).toNat noIns) (blkAt l block).next).1.p, zeroRg, [], zeroEx, ((goV p l block regs).ends (l.getD ((blkAt l block).upto - 1).toNat noIns) (blkAt l block).next).1.err⟩
  else ⟨((goV p l block regs).ends (l.getD ((blkAt l block).upto - 1).toNat noIns) (blkAt l block).next).1.p, ((goV p l block regs).ends (l.getD ((blkAt l block).upto - 1).toNat noIns) (blkAt l block).next).1.regs, ((goV p l block regs).ends (l.getD ((blkAt l block).upto - 1).toNat noIns) (blkAt l block).next).1.evs, ((goV p l block regs).ends (l.getD ((blkAt l block).upto - 1).toNat noIns) (blkAt l block).next).2, 0⟩ := by
 unfold runV
 rw [if_neg (by rw [h]; simp), if_neg (by rw [h2]; simp)]
theorem wpList_build {P : Program} {ops : Array Oper} {rest : List Oper} {o : Oper} {a : Act} {w : World} {Q : Exit → Act → World → Prop} (hgd : o.guard = none) (t : TypeId) (fs : Array (Nat × Operand)) (ho : o.op = .build t fs) (vs : Array (Nat × Value)) (v : Value) (hx : (fs.map fun (i, x) => (i, a.eval x)) = vs)
  (hr : ∀ w, (Instr.build t vs).run P w = .ok v w) (h : wpList P ops Q rest (a.put o.dst v) w) : wpList P ops Q (o :: rest) a w :=
 wpList_plain hgd fun _ hK => by
  unfold Oper.wp execOp
  simp only [ho, hx, Sem.run_bind, hr, Sem.run_pure, Result.andThen_ok]
  exact hK _ _ h
/-! ### the machine made, and done -/
section
variable {base g b : Nat} {F F' G' : Nat → Prop} {p : PS} {regs : List Int} {m : SM} {ex : ExD} {w w1 w2 : World}
theorem MA.start (h : PoolAt w base F g p) (hB : Blk w b 114 (mC g regs (.slice none 0 0) zeroEx 0).toArray) (hb : base ≤ b) (hF : ¬ F b) (hl : regs.length = 11) (hr : ∀ r ∈ regs, I64 r) : MA base g b F (fun k => F k ∨ k = b) (SM.mk p regs [] 0) zeroEx w where
 pool := h
 box := ⟨.slice none 0 0, [], hB, ⟨rfl, .inl ⟨rfl, rfl⟩⟩, rfl, by simp, fun k e => by cases e⟩
 nb := ⟨hF, .inr rfl⟩
 sub := fun k q => .inl q
 low := fun k q => q.elim (fun q => h.fb k q) (fun e => by subst e; exact ⟨hb, hB.lt⟩)
 len := hl
 rng := hr
 few := by simp
theorem MG.pgo (h : PG base g F w F p w1) (k : MG base g b (fun c => F c ∨ c = b) w1 F' G' m ex w2) (hb : w.heap.size ≤ b) : PG base g F w F' m.p w2 :=
 ⟨k.at_.pool, h.chg.trans k.chg (fun c q => q.elim .inl (fun e => .inr (e ▸ hb))), fun c q => (k.new c (k.at_.sub c q)).elim (fun q => q.elim .inl (fun e => .inr (e ▸ hb))) (fun e => .inr (Nat.le_trans h.chg.size e))⟩
theorem MA.out (h : MA base g b F' G' m ex w2) : ∃ es, Blk w2 b 114 (mC g m.regs es ex m.err).toArray ∧ EvsAt w2 (fun k => F' k ∨ k ≤ b) es m.evs ∧ es.oneCell' = true := by
 obtain ⟨es, q, h1, h2, h3, h4, h5⟩ := h.box
 obtain ⟨A, c, e, hc, hR⟩ := ReadsF.of_own (F := fun k => F' k ∨ k ≤ b) h2 (fun k hk q => q.elim (h5 k hk).2.1 (fun e => by have := (own_ge h2 k hk).1; omega))
 refine ⟨es, h1, ⟨A, c, q, e, hc, h3, hR, fun p hp => ⟨(h4 p hp).1, (h4 p hp).2.chg (H := fun _ => False) (Chg.refl _ w2) (fun _ q => q.elim) (fun k q => .inl (q.elim (fun q => .inl (h.sub k q)) .inr))⟩⟩, ?_⟩
 rw [e]
 rfl
end
/-! ### a program apart from what may yet change -/
def InsF (w : World) (F : Nat → Prop) (A : Option Addr) (n : Nat) (l : List ID) : Prop := l.length = n ∧ (∀ x ∈ l, x.wf) ∧ ReadsF w F 9 A n (l.flatMap ID.cells)
section
variable {w w' : World} {F G H : Nat → Prop} {A : Option Addr} {n : Nat} {l : List ID}
theorem InsF.ins (h : InsF w F A n l) : InsAt w w.heap.size A n l := ⟨h.1, h.2.1, h.2.2.reads⟩
theorem InsF.chg (h : InsF w F A n l) (hc : Chg H w w') (hH : ∀ b, H b → F b ∨ w.heap.size ≤ b) (hG : ∀ b, G b → F b ∨ w.heap.size ≤ b) : InsF w' G A n l := ⟨h.1, h.2.1, h.2.2.chg hc hH hG⟩
theorem InsF.step (h : InsF w F A n l) (hb : Below w.heap.size w w') : InsF w' F A n l := h.chg (Chg.of_below hb) (fun k q => .inr q) (fun k q => .inl q)
theorem InsF.of_ins {B : Nat} (h : InsAt w B A n l) (hB : B ≤ w.heap.size) (hF : ∀ k, F k → B ≤ k) : InsF w F A n l := ⟨h.1, h.2.1, h.2.2.1, fun hn => by
 obtain ⟨ad, e, hb, hc⟩ := h.2.2.2 hn
 exact ⟨ad, e, by omega, fun q => by have := hF _ q; omega, hc⟩⟩
theorem InsF.at_ {k : Nat} (h : InsF w F A n l) (hk : k < n) : ∃ ad x, A = some ad ∧ ad.block < w.heap.size ∧ ¬ F ad.block ∧ l[k]? = some x ∧ x.wf ∧ ∀ j u, x.cells[j]? = some u → w.cell? ((ad.add (k * 9)).add j) = some u := by
 obtain ⟨ad, e, hb, hf, hc⟩ := h.2.2.2 (by omega)
 have hkl : k < l.length := by have := h.1; omega
 have hx : l[k]? = some l[k] := List.getElem?_eq_getElem hkl
 refine ⟨ad, l[k], e, hb, hf, hx, h.2.1 _ (List.getElem_mem _), fun j u hu => ?_⟩
 rw [add_of_add]
 exact hc _ u (flat_at ID.cells 9 l (fun z hz => rfl) k j _ u hx hu)
theorem ReadsF.cut {size k c : Nat} {xs : List Value} (h : ReadsF w F size A n xs) (hk : k ≤ n) (hc : n ≤ c) : ReadsF w F size (if c = k then A else A.map (·.add (k * size))) (n - k) (xs.drop (k * size)) := by
 refine ⟨by rw [List.length_drop, h.1, Nat.sub_mul], fun hn => ?_⟩
 obtain ⟨ad, rfl, hb, hf, hcell⟩ := h.2 (by omega)
 rw [if_neg (by omega)]
 refine ⟨ad.add (k * size), rfl, by rw [block_of_add]; exact hb, by rw [block_of_add]; exact hf, fun j u hu => ?_⟩
 rw [add_of_add]
 exact hcell _ u (by rw [← hu, List.getElem?_drop])
theorem ReadsF.take_g {size m : Nat} {xs : List Value} (h : ReadsF w F size A n xs) (hm : m ≤ n) : ReadsF w F size A m (xs.take (m * size)) := by
 refine ⟨by rw [List.length_take, h.1]; exact Nat.min_eq_left (Nat.mul_le_mul_right _ hm), fun hn => ?_⟩
 obtain ⟨ad, e, hb, hf, hc⟩ := h.2 (by omega)
 refine ⟨ad, e, hb, hf, fun j u hu => hc j u ?_⟩
 rw [← hu, List.getElem?_take]
 have := (List.getElem?_eq_some_iff.1 hu).1
 rw [List.length_take] at this
 rw [if_pos (by omega)]
end
theorem wpList_fromtoF {P : Program} {w : World} {F : Nat → Prop} {ops : Array Oper} {rest : List Oper} {o : Oper} {a : Act} {Q : Exit → Act → World → Prop} (hgd : o.guard = none) (t e : TypeId) (x y z : Operand) (ho : o.op = .slice t x (some y) (some z) none)
  (ht : P.underlying t = some (.slice e)) (size : Nat) (hi : (P.info? e).map (·.size) = some size) (A : Option Addr) (n c l h : Nat) (kd ke : IntKind) (hx : a.eval x = .slice A n c) (hy : a.eval y = .int kd (l : Int)) (hz : a.eval z = .int ke (h : Int)) (hl : l ≤ h) (hh : h ≤ n) (hc : n ≤ c)
  (xs : List Value) (hr : ReadsF w F size A n xs)
  (hk : ∀ A', ReadsF w F size A' (h - l) ((xs.drop (l * size)).take ((h - l) * size)) → wpList P ops Q rest (a.put o.dst (.slice A' (h - l) (c - l))) w) : wpList P ops Q (o :: rest) a w :=
 wpList_plain hgd fun _ hK => by
  unfold Oper.wp execOp
  have hte : P.underlying t = some (.slice (P.elem t)) := by rw [elem_of ht]; exact ht
  cases hq : P.info? e with
  | none => simp [hq] at hi
  | some i =>
   have hs : i.size = size := by simpa [hq] using hi
   have hrun : (Instr.sliceAt t (.slice A n c) (some (.int kd (l : Int))) (some (.int ke (h : Int))) none).run P w = .ok (.slice (if c = l then A else A.map (·.add (l * size))) (h - l) (c - l)) w := by
    rw [run_sliceAt_slice w t _ _ _ _ hte, run_slice_lh w t A n c hte kd ke (l : Int) (h : Int) (by omega) (by omega) (by omega), elem_of ht]
    simp [sizeOf, typeInfo, hq, hs, Go.sliced, Sem.run_bind]
   simp only [ho, hx, hy, hz, Option.map_some, Option.map_none, Sem.run_bind, hrun, Sem.run_pure, Result.andThen_ok]
   exact hK _ _ (hk _ ((hr.cut (by omega) hc).take_g (by omega)))
/-! ### a part of the program -/
theorem flat_drop {α β : Type} (f : α → List β) (m : Nat) : ∀ (l : List α) (k : Nat), (∀ x ∈ l, (f x).length = m) → (l.flatMap f).drop (k * m) = (l.drop k).flatMap f
 | l, 0, _ => by simp
 | [], k + 1, _ => by simp
 | x :: r, k + 1, h => by
  have hx := h x (by simp)
  rw [List.flatMap_cons, List.drop_succ_cons, ← flat_drop f m r k (fun y hy => h y (by simp [hy])), show (k + 1) * m = m + k * m by rw [Nat.succ_mul]; omega, ← List.drop_drop, List.drop_left' hx]
theorem flat_takes {α β : Type} (f : α → List β) (m : Nat) : ∀ (l : List α) (k : Nat), (∀ x ∈ l, (f x).length = m) → (l.flatMap f).take (k * m) = (l.take k).flatMap f
 | l, 0, _ => by simp
 | [], k + 1, _ => by simp
 | x :: r, k + 1, h => by
  have hx := h x (by simp)
  rw [List.flatMap_cons, List.take_succ_cons, List.flatMap_cons, ← flat_takes f m r k (fun y hy => h y (by simp [hy])), show (k + 1) * m = m + k * m by rw [Nat.succ_mul]; omega, List.take_add, List.take_left' hx, List.drop_left' hx]
theorem ins_part {w : World} {F : Nat → Prop} {n : Nat} {A A' : Option Addr} {l : List ID} {f t : Nat} (h : InsF w F A n l) (hft : f ≤ t) (ht : t ≤ n) (hr : ReadsF w F 9 A' (t - f) (((l.flatMap ID.cells).drop (f * 9)).take ((t - f) * 9))) : InsF w F A' (t - f) ((l.drop f).take (t - f)) := by
 rw [flat_drop ID.cells 9 l f (fun _ _ => rfl), flat_takes ID.cells 9 _ (t - f) (fun _ _ => rfl)] at hr
 exact ⟨by rw [List.length_take, List.length_drop, h.1]; omega, fun x hx => h.2.1 x (List.mem_of_mem_drop (List.mem_of_mem_take hx)), hr⟩
end
section
open Go.RowKit
/-! ### the start -/
def P0 : PS := ⟨(List.range 11).map (fun (i : Nat) => varT (i : Int) 64), List.replicate 11 1⟩
def R0 : List Int := (List.range 11).map (fun (i : Nat) => (i : Int))
theorem start_empty : eachV startS ⟨[], []⟩ = (P0, R0, 0) := by kernel_rfl
theorem eachK_good {st : PS → Nat → RS} (hst : ∀ p i, i < 11 → WfP p → (∀ t ∈ p.T, t.wf) → Good p (st p i)) {p : PS} (hw : WfP p) (hr : ∀ t ∈ p.T, t.wf) : ∀ k, k ≤ 11 → Ext p (eachK st p k).1 ∧ WfP (eachK st p k).1 ∧ (∀ t ∈ (eachK st p k).1.T, t.wf) ∧ ((eachK st p k).2.2 = 0 → ∀ r ∈ (eachK st p k).2.1, hasB (eachK st p k).1.T r = true) := by
 intro k hk
 induction k with
 | zero => exact ⟨Ext.refl p, hw, hr, fun _ r h => by cases h⟩
 | succ k ih =>
  obtain ⟨h1, h2, h3, h4⟩ := ih (by omega)
  by_cases h0 : (eachK st p k).2.2 = 0
  ·have hg := hst (eachK st p k).1 k (by omega) h2 h3
   rw [eachK_succ h0]
   refine ⟨h1.trans hg.ext, hg.wf, hg.rng, fun he r hm => ?_⟩
   rcases List.mem_append.1 hm with hm | hm
   ·exact hg.ext.has (h4 h0 r hm)
   ·have : r = (st (eachK st p k).1 k).2.1 := by simpa using hm
    subst this
    exact hg.has he
  ·have e : eachK st p (k + 1) = eachK st p k := by
    rw [eachK]
    dsimp only
    rw [if_neg h0]
   rw [e]
   exact ⟨h1, h2, h3, h4⟩
theorem start_good (p : PS) (i : Nat) (hi : i < 11) (hw : WfP p) (hr : ∀ t ∈ p.T, t.wf) : Good p (startS p i) := Good.put hw hr (varT_wf (by unfold U64; omega) (by unfold I8; omega))
theorem wf_nil : WfP ⟨[], []⟩ ∧ ∀ t ∈ (⟨[], []⟩ : PS).T, t.wf := ⟨WfP.nil, by simp⟩
theorem P0_good : WfP P0 ∧ (∀ t ∈ P0.T, t.wf) ∧ ∀ r ∈ R0, hasB P0.T r = true := by
 obtain ⟨_, h2, h3, h4⟩ := eachK_good start_good wf_nil.1 wf_nil.2 11 (Nat.le_refl _)
 have e : eachK startS ⟨[], []⟩ 11 = (P0, R0, 0) := by kernel_rfl
 rw [e] at h2 h3 h4
 exact ⟨h2, h3, h4 rfl⟩
theorem P0_kind : ∀ t ∈ P0.T, t.kind = 1 := by decide
theorem P0_num : ∀ t ∈ P0.T, t.n < 38 := by decide
theorem nz_of {p : PS} (h : ∀ t ∈ p.T, t.kind ≠ 3) : NZ p := fun n hn hk => by
 obtain ⟨i, rfl, hi⟩ := has_ix hn
 exact absurd hk (h _ (List.mem_of_getElem? hi))
theorem aa_of {p : PS} (h : ∀ t ∈ p.T, t.kind ≠ 2) : AA p := fun n x hn hc => by
 obtain ⟨i, rfl, hi⟩ := has_ix hn
 unfold addC at hc
 simp only [Bool.and_eq_true, beq_iff_eq] at hc
 exact absurd hc.1 (h _ (List.mem_of_getElem? hi))
theorem P0_rm : Rm P0 3900 := ⟨P0_good.1, P0_good.2.1, nz_of (fun t ht => by rw [P0_kind t ht]; decide), aa_of (fun t ht => by rw [P0_kind t ht]; decide), by decide⟩
theorem R0_low : ∀ r ∈ R0, dpP P0 r ≤ 1 := by decide
theorem P0_mi : MI (SM.mk P0 R0 [] 0) 3900 1 := ⟨P0_rm, rfl, fun r hr => ⟨P0_good.2.2 r hr, R0_low r hr⟩, rfl, fun t ht _ => P0_num t ht⟩
/-! ### Run -/
theorem ins_may {c : Int} {l : List ID} (hc : (chkP c l).2 = 0) {x : BD} : (∀ y ∈ insOf l x, MayF y) ∧ (insOf l x).length ≤ 64 := by
 obtain ⟨_, _, h1, h64, hok, _, _⟩ := chk_ok hc
 refine ⟨fun y hy => ?_, ?_⟩
 ·unfold insOf at hy
  have hm := List.mem_of_mem_drop (List.mem_of_mem_take hy)
  obtain ⟨i, hi⟩ := List.getElem?_of_mem hm
  have := hok i y hi
  unfold okAt at this
  simp only [Bool.and_eq_true] at this
  exact may_facts this.1
 ·unfold insOf
  rw [List.length_take, List.length_drop]
  omega
theorem ask_blk {p : PS} {l : List ID} {block : Int} {regs : List Int} (h : askB p l block regs = true) : (blkAt l block) ∈ blkL l := by
 unfold askB at h
 simp only [Bool.and_eq_true, decide_eq_true_eq] at h
 unfold blkAt
 rw [List.getD_eq_getElem?_getD, List.getElem?_eq_getElem (by omega)]
 exact List.getElem_mem _
theorem last_may {c : Int} {l : List ID} (hc : (chkP c l).2 = 0) {x : BD} (hx : x ∈ blkL l) : MayF (l.getD (x.upto - 1).toNat noIns) := by
 obtain ⟨_, _, h1, h64, hok, _, _⟩ := chk_ok hc
 obtain ⟨i, y, hb⟩ := blk_facts (by omega) h64 hok hx
 rw [hb.last, show ((i : Int) + 1 - 1).toNat = i by omega, List.getD_eq_getElem?_getD, hb.at_]
 have := hok i y hb.at_
 unfold okAt at this
 simp only [Bool.and_eq_true] at this
 exact may_facts this.1
structure RunG (p : PS) (c : Int) (l : List ID) (block : Int) (regs : List Int) (m : SM) (q : SM × ExD) (k : Nat) : Prop where
 mi : MI m (k + 30) 65
 ext : Ext p m.p
 eqm : goV p l block regs = m
 eqq : m.ends (l.getD ((blkAt l block).upto - 1).toNat noIns) (blkAt l block).next = q
 err : q.1.err = 0
 rgs : q.1.regs = m.regs
 evs : q.1.evs = m.evs
 rm : Rm q.1.p k
 exq : Ext m.p q.1.p
 exv : q.2.kind ≠ 1 → hasB q.1.p.T q.2.v = true
 run : runV p c l block regs = ⟨q.1.p, q.1.regs, q.1.evs, q.2, 0⟩
theorem run_fits {p : PS} {c : Int} {l : List ID} {block : Int} {regs : List Int} {k : Nat} (h : MI (SM.mk p regs [] 0) (k + 1950) 1) (hc : (chkP c l).2 = 0) (ha : askB p l block regs = true) : ∃ m q, RunG p c l block regs m q k := by
 obtain ⟨hm, hl⟩ := ins_may hc (x := blkAt l block)
 have h1 : MI (SM.mk p regs [] 0) (k + 30 + 30 * (insOf l (blkAt l block)).length) 1 := ⟨h.rm.less (by omega), h.len, h.reg, h.err, h.vi⟩
 have hb0 : bringsN (SM.mk p regs [] 0).evs = 0 := rfl
 obtain ⟨hg, he⟩ := go_fit (insOf l (blkAt l block)) h1 (by omega) (by omega) (by rw [hb0]; omega) hm
 have eg : goV p l block regs = (SM.mk p regs [] 0).go (insOf l (blkAt l block)) := rfl
 rw [← eg] at hg he
 have hmi : MI (goV p l block regs) (k + 30) 65 := ⟨hg.rm, hg.len, fun r hr => ⟨(hg.reg r hr).1, by have := (hg.reg r hr).2; omega⟩, hg.err, hg.vi⟩
 obtain ⟨e1, e2, e3, e4⟩ := ends_fit hmi (by omega) (last_may hc (ask_blk ha)) (blkAt l block).next
 refine ⟨_, _, hmi, he, rfl, rfl, ?_, ?_, ?_, e2, e3, fun q => (e4 q).1, ?_⟩
 ·rw [e1]
 ·rw [e1]
 ·rw [e1]
 ·unfold runV
  rw [if_neg (by rw [hc]; simp), if_neg (by rw [ha]; simp)]
  dsimp only
  rw [if_neg (by rw [hmi.err]; simp), if_neg (by rw [e1]; simp)]
end
section
open Go.RowKit
section
variable {w w' : World} {base g : Nat} {F F' G : Nat → Prop} {p : PS} {s : Value} {l : List EvD}
theorem EvsAt.step (h : EvsAt w F s l) (hb : Below w.heap.size w w') : EvsAt w' F s l := h.chg (Chg.of_below hb) (fun k q => .inr q) (fun k q => .inl q)
end
end
end Go.Proofs.YtepagfkkjlbipaaGreat
