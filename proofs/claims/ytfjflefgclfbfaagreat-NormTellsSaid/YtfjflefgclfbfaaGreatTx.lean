/-
  A region of two calls that make memory, two new variables, two stores, in whatever order (division's). Conditions: those written in each statement.
-/
import Derived.Test.YtfjflefgclfbfaaGreatKa
import Derived.Deep.RegionWith
import Derived.OrdersHeld
import Derived.BigRegion
import Derived.Deep.MidRow
namespace Go.Proofs.YtfjflefgclfbfaaGreat
open Go.RowKit
set_option linter.unusedVariables false
set_option linter.unusedSimpArgs false
theorem get_put {a : Act} {d k : Nat} {v : Value} (h : d < a.tmps.size) : (a.put (some d) v).tmps[k]? = if d = k then some v else a.tmps[k]? := by
  unfold Act.put
  rw [Array.getElem?_setIfInBounds]
  by_cases e : d = k
  · subst e; simp [h]
  · simp [e]
theorem size_put {a : Act} {d : Nat} {v : Value} : (a.put (some d) v).tmps.size = a.tmps.size := by simp [Act.put]
theorem ev_tmp {a : Act} {t : Nat} : a.eval (.tmp t) = (a.tmps[t]?).getD undef := by
  unfold Act.eval
  simp [Array.getD_eq_getD_getElem?]
/-- What each slot holds, by what has come up. -/
def ex8 (a0 : Act) (v0 v1 v2 v3 v4 v5 v6 v7 : Value) (b0 b1 b2 b3 b4 b5 b6 b7 : Bool) (k : Nat) : Option Value :=
  if k = 17 then (if b0 then some v0 else a0.tmps[k]?) else if k = 18 then (if b1 then some v1 else a0.tmps[k]?) else if k = 19 then (if b2 then some v2 else a0.tmps[k]?) else if k = 20 then (if b3 then some v3 else a0.tmps[k]?)
  else if k = 21 then (if b4 then some v4 else a0.tmps[k]?) else if k = 22 then (if b5 then some v5 else a0.tmps[k]?) else if k = 11 then (if b6 then some v6 else a0.tmps[k]?) else if k = 12 then (if b7 then some v7 else a0.tmps[k]?) else a0.tmps[k]?
structure Fr (a0 : Act) (v0 v1 v2 v3 v4 v5 v6 v7 : Value) (b0 b1 b2 b3 b4 b5 b6 b7 : Bool) (a : Act) : Prop where
  at_ : ∀ k, a.tmps[k]? = ex8 a0 v0 v1 v2 v3 v4 v5 v6 v7 b0 b1 b2 b3 b4 b5 b6 b7 k
  size : a.tmps.size = a0.tmps.size
  defers : a.defers = a0.defers
section
variable {a0 a : Act} {v0 v1 v2 v3 v4 v5 v6 v7 u6 u7 : Value} {b0 b1 b2 b3 b4 b5 b6 b7 : Bool}
theorem Fr.p0 (h : Fr a0 v0 v1 v2 v3 v4 v5 v6 v7 b0 b1 b2 b3 b4 b5 b6 b7 a) (hs : 22 < a0.tmps.size) : Fr a0 v0 v1 v2 v3 v4 v5 v6 v7 true b1 b2 b3 b4 b5 b6 b7 (a.put (some 17) v0) := by
  refine ⟨fun k => ?_, size_put.trans h.size, h.defers⟩
  rw [get_put (by rw [h.size]; omega)]
  by_cases hk : k = 17
  · subst hk; simp [ex8]
  · rw [if_neg (Ne.symm hk), h.at_ k]; simp [ex8, hk]
theorem Fr.p1 (h : Fr a0 v0 v1 v2 v3 v4 v5 v6 v7 b0 b1 b2 b3 b4 b5 b6 b7 a) (hs : 22 < a0.tmps.size) : Fr a0 v0 v1 v2 v3 v4 v5 v6 v7 b0 true b2 b3 b4 b5 b6 b7 (a.put (some 18) v1) := by
  refine ⟨fun k => ?_, size_put.trans h.size, h.defers⟩
  rw [get_put (by rw [h.size]; omega)]
  by_cases hk : k = 18
  · subst hk; simp [ex8]
  · rw [if_neg (Ne.symm hk), h.at_ k]; simp [ex8, hk]
theorem Fr.p2 (h : Fr a0 v0 v1 v2 v3 v4 v5 v6 v7 b0 b1 b2 b3 b4 b5 b6 b7 a) (hs : 22 < a0.tmps.size) : Fr a0 v0 v1 v2 v3 v4 v5 v6 v7 b0 b1 true b3 b4 b5 b6 b7 (a.put (some 19) v2) := by
  refine ⟨fun k => ?_, size_put.trans h.size, h.defers⟩
  rw [get_put (by rw [h.size]; omega)]
  by_cases hk : k = 19
  · subst hk; simp [ex8]
  · rw [if_neg (Ne.symm hk), h.at_ k]; simp [ex8, hk]
theorem Fr.p3 (h : Fr a0 v0 v1 v2 v3 v4 v5 v6 v7 b0 b1 b2 b3 b4 b5 b6 b7 a) (hs : 22 < a0.tmps.size) : Fr a0 v0 v1 v2 v3 v4 v5 v6 v7 b0 b1 b2 true b4 b5 b6 b7 (a.put (some 20) v3) := by
  refine ⟨fun k => ?_, size_put.trans h.size, h.defers⟩
  rw [get_put (by rw [h.size]; omega)]
  by_cases hk : k = 20
  · subst hk; simp [ex8]
  · rw [if_neg (Ne.symm hk), h.at_ k]; simp [ex8, hk]
theorem Fr.p4 (h : Fr a0 v0 v1 v2 v3 v4 v5 v6 v7 b0 b1 b2 b3 b4 b5 b6 b7 a) (hs : 22 < a0.tmps.size) : Fr a0 v0 v1 v2 v3 v4 v5 v6 v7 b0 b1 b2 b3 true b5 b6 b7 (a.put (some 21) v4) := by
  refine ⟨fun k => ?_, size_put.trans h.size, h.defers⟩
  rw [get_put (by rw [h.size]; omega)]
  by_cases hk : k = 21
  · subst hk; simp [ex8]
  · rw [if_neg (Ne.symm hk), h.at_ k]; simp [ex8, hk]
theorem Fr.p5 (h : Fr a0 v0 v1 v2 v3 v4 v5 v6 v7 b0 b1 b2 b3 b4 b5 b6 b7 a) (hs : 22 < a0.tmps.size) : Fr a0 v0 v1 v2 v3 v4 v5 v6 v7 b0 b1 b2 b3 b4 true b6 b7 (a.put (some 22) v5) := by
  refine ⟨fun k => ?_, size_put.trans h.size, h.defers⟩
  rw [get_put (by rw [h.size]; omega)]
  by_cases hk : k = 22
  · subst hk; simp [ex8]
  · rw [if_neg (Ne.symm hk), h.at_ k]; simp [ex8, hk]
theorem Fr.p6 (h : Fr a0 v0 v1 v2 v3 v4 v5 u6 v7 b0 b1 b2 b3 b4 b5 false b7 a) (hs : 22 < a0.tmps.size) : Fr a0 v0 v1 v2 v3 v4 v5 v6 v7 b0 b1 b2 b3 b4 b5 true b7 (a.put (some 11) v6) := by
  refine ⟨fun k => ?_, size_put.trans h.size, h.defers⟩
  rw [get_put (by rw [h.size]; omega)]
  by_cases hk : k = 11
  · subst hk; simp [ex8]
  · rw [if_neg (Ne.symm hk), h.at_ k]; simp [ex8, hk]
theorem Fr.p7 (h : Fr a0 v0 v1 v2 v3 v4 v5 v6 u7 b0 b1 b2 b3 b4 b5 b6 false a) (hs : 22 < a0.tmps.size) : Fr a0 v0 v1 v2 v3 v4 v5 v6 v7 b0 b1 b2 b3 b4 b5 b6 true (a.put (some 12) v7) := by
  refine ⟨fun k => ?_, size_put.trans h.size, h.defers⟩
  rw [get_put (by rw [h.size]; omega)]
  by_cases hk : k = 12
  · subst hk; simp [ex8]
  · rw [if_neg (Ne.symm hk), h.at_ k]; simp [ex8, hk]
theorem Fr.out (h : Fr a0 v0 v1 v2 v3 v4 v5 v6 v7 true true true true true true true true a) (hs : 22 < a0.tmps.size) : a = ((((((((a0.put (some 17) v0).put (some 18) v1).put (some 19) v2).put (some 20) v3).put (some 21) v4).put (some 22) v5).put (some 11) v6).put (some 12) v7) := by
  have h0 : Fr a0 v0 v1 v2 v3 v4 v5 v6 v7 false false false false false false false false a0 := ⟨fun k => by simp [ex8], rfl, rfl⟩
  have h1 := (((((((h0.p0 hs).p1 hs).p2 hs).p3 hs).p4 hs).p5 hs).p6 (v6 := v6) hs).p7 (v7 := v7) hs
  generalize ((((((((a0.put (some 17) v0).put (some 18) v1).put (some 19) v2).put (some 20) v3).put (some 21) v4).put (some 22) v5).put (some 11) v6).put (some 12) v7) = c at h1
  obtain ⟨at1, ad1⟩ := a
  obtain ⟨ct1, cd1⟩ := c
  have e1 : at1 = ct1 := Array.ext_getElem? fun k => (h.at_ k).trans (h1.at_ k).symm
  have e2 : ad1 = cd1 := h.defers.trans h1.defers.symm
  rw [e1, e2]
end
/-- The world's part. -/
structure Wd (T : TypeId) (Z X Y : List Value) (B g9 g10 : Nat) (b6 b7 b8 b9 : Bool) (w0 w : World) : Prop where
  nine : b6 = true → Blk w g9 T (if b8 then X else Z).toArray ∧ B ≤ g9
  ten : b7 = true → Blk w g10 T (if b9 then Y else Z).toArray ∧ B ≤ g10
  ne : b6 = true → b7 = true → g9 ≠ g10
  below : Below B w0 w
  le : B ≤ w.heap.size
  k8 : b8 = true → b6 = true
  k9 : b9 = true → b7 = true
section
variable {T : TypeId} {Z X Y : List Value} {B g9 g10 : Nat} {b6 b7 b8 b9 : Bool} {w0 w V : World}
theorem Wd.step (h : Wd T Z X Y B g9 g10 b6 b7 b8 b9 w0 w) (hb : Below w.heap.size w V) : Wd T Z X Y B g9 g10 b6 b7 b8 b9 w0 V :=
  ⟨fun q => ⟨(h.nine q).1.below hb (h.nine q).1.lt, (h.nine q).2⟩, fun q => ⟨(h.ten q).1.below hb (h.ten q).1.lt, (h.ten q).2⟩, h.ne, h.below.trans (hb.mono h.le), Nat.le_trans h.le hb.size, h.k8, h.k9⟩
theorem Wd.new9 (h : Wd T Z X Y B g9 g10 false b7 false b9 w0 w) : Wd T Z X Y B w.heap.size g10 true b7 false b9 w0 (w.alloc (.cells Z.toArray T)) := by
  have hb : Below w.heap.size w (w.alloc (.cells Z.toArray T)) := (Below.refl _ _).alloc (Nat.le_refl _) _
  refine ⟨fun _ => ⟨Blk.new w _ _, h.le⟩, (h.step hb).ten, fun _ q => ?_, (h.step hb).below, (h.step hb).le, fun _ => rfl, h.k9⟩
  have := (h.ten q).1.lt
  omega
theorem Wd.new10 (h : Wd T Z X Y B g9 g10 b6 false b8 false w0 w) : Wd T Z X Y B g9 w.heap.size b6 true b8 false w0 (w.alloc (.cells Z.toArray T)) := by
  have hb : Below w.heap.size w (w.alloc (.cells Z.toArray T)) := (Below.refl _ _).alloc (Nat.le_refl _) _
  refine ⟨(h.step hb).nine, fun _ => ⟨Blk.new w _ _, h.le⟩, fun q _ => ?_, (h.step hb).below, (h.step hb).le, h.k8, fun _ => rfl⟩
  have := (h.nine q).1.lt
  omega
theorem Wd.set9 (h : Wd T Z X Y B g9 g10 true true b8 b9 w0 w) (hx : Blk V g9 T X.toArray) (hg : w.grownBy V (some g9)) : Wd T Z X Y B g9 g10 true true true b9 w0 V :=
  ⟨fun _ => ⟨by simpa using hx, (h.nine rfl).2⟩, fun _ => ⟨(h.ten rfl).1.grown hg (fun e => by injection e with e; exact h.ne rfl rfl e.symm), (h.ten rfl).2⟩, h.ne, h.below.grown hg h.le (fun g e => by injection e with e; have := (h.nine rfl).2; omega), Nat.le_trans h.le hg.size, fun _ => rfl, fun _ => rfl⟩
theorem Wd.set10 (h : Wd T Z X Y B g9 g10 true true b8 b9 w0 w) (hx : Blk V g10 T Y.toArray) (hg : w.grownBy V (some g10)) : Wd T Z X Y B g9 g10 true true b8 true w0 V :=
  ⟨fun _ => ⟨(h.nine rfl).1.grown hg (fun e => by injection e with e; exact h.ne rfl rfl e), (h.nine rfl).2⟩, fun _ => ⟨by simpa using hx, (h.ten rfl).2⟩, h.ne, h.below.grown hg h.le (fun g e => by injection e with e; have := (h.ten rfl).2; omega), Nat.le_trans h.le hg.size, fun _ => rfl, fun _ => rfl⟩
end
def nfB (b : Bool) : Nat := if b then 0 else 1

def upB (b0 b1 b2 b3 b4 b5 b6 b7 b8 b9 : Bool) : Nat → Bool
  | 0 => !b0
  | 1 => !b1
  | 2 => !b2 && (b0 && b1)
  | 3 => !b3
  | 4 => !b4
  | 5 => !b5 && (b3 && b4)
  | 6 => !b6
  | 7 => !b7
  | 8 => !b8 && (b2 && (b6 && b7))
  | 9 => !b9 && (b5 && (b6 && b7))
  | _ => false
theorem up_or {b0 b1 b2 b3 b4 b5 b6 b7 b8 b9 : Bool} : ∀ {i : Nat}, upB b0 b1 b2 b3 b4 b5 b6 b7 b8 b9 i = true → (i = 0 ∧ b0 = false) ∨ (i = 1 ∧ b1 = false) ∨ (i = 2 ∧ b2 = false ∧ b0 = true ∧ b1 = true) ∨ (i = 3 ∧ b3 = false) ∨ (i = 4 ∧ b4 = false) ∨ (i = 5 ∧ b5 = false ∧ b3 = true ∧ b4 = true) ∨ (i = 6 ∧ b6 = false) ∨ (i = 7 ∧ b7 = false) ∨ (i = 8 ∧ b8 = false ∧ b2 = true ∧ b6 = true ∧ b7 = true) ∨ (i = 9 ∧ b9 = false ∧ b5 = true ∧ b6 = true ∧ b7 = true)
  | 0, h => by simp [upB] at h; simp [h]
  | 1, h => by simp [upB] at h; simp [h]
  | 2, h => by simp [upB] at h; simp [h]
  | 3, h => by simp [upB] at h; simp [h]
  | 4, h => by simp [upB] at h; simp [h]
  | 5, h => by simp [upB] at h; simp [h]
  | 6, h => by simp [upB] at h; simp [h]
  | 7, h => by simp [upB] at h; simp [h]
  | 8, h => by simp [upB] at h; simp [h]
  | 9, h => by simp [upB] at h; simp [h]
  | n + 10, h => by simp [upB] at h
theorem wp_load_ag {P : Program} {op : Oper} {a : Act} {w : World} {K : Act → World → Prop} {Q : Exit → Act → World → Prop} (ty : TypeId) (x : Operand) (ho : op.op = .load ty x) (ad : Addr) (hx : a.eval x = .pointer (some ad)) (cs : List Value) (d : TypeDesc)
    (hc : ∀ j u, cs[j]? = some u → w.cell? (ad.add j) = some u) (hu : P.underlying ty = some d) (hd : aggD d = true) (hi : (P.info? ty).map (·.size) = some cs.length) (h : K (a.put op.dst (.agg cs.toArray)) w) : op.wp P a w K Q := by
  unfold Oper.wp execOp
  simp only [ho, hx, Instr.loadAt, Instr.sureAddr, Sem.run_bind, Sem.run_pure, Result.andThen_ok, run_loadVar_at w ad ty cs d hc hu hd hi]
  exact h
theorem two_calls {P : Program} {ops : Array Oper} {Q : Exit → Act → World → Prop} {a0 : Act} {w0 : World} {B gR : Nat} (T L : TypeId) (i0 : TypeInfo) (dL : TypeDesc) (Z RR X Y : List Value) (f g : FuncId) (v0 v3 : Value) (t0 t1 t3 t4 : TypeId)
    (hfin : ∀ b0 b1 b2 b3 b4 b5 b6 b7 b8 b9 : Bool, Region.ready .any ops #[b0, b1, b2, b3, b4, b5, b6, b7, b8, b9] = [] → (b0 && b1 && b2 && b3 && b4 && b5 && b6 && b7 && b8 && b9) = true)
    (hend : Region.ready .any ops #[true, true, true, true, true, true, true, true, true, true] = [])
    (hrdy0 : ∀ b0 b1 b2 b3 b4 b5 b6 b7 b8 b9 : Bool, (Region.ready .any ops #[b0, b1, b2, b3, b4, b5, b6, b7, b8, b9]).all (upB b0 b1 b2 b3 b4 b5 b6 b7 b8 b9) = true)
    (o0 o1 o2 o3 o4 o5 o6 o7 o8 o9 : Oper) (h0 : ops[0]? = some o0) (h1 : ops[1]? = some o1) (h2 : ops[2]? = some o2) (h3 : ops[3]? = some o3) (h4 : ops[4]? = some o4) (h5 : ops[5]? = some o5) (h6 : ops[6]? = some o6) (h7 : ops[7]? = some o7) (h8 : ops[8]? = some o8) (h9 : ops[9]? = some o9)
    (n0 : o0.guard = none) (n1 : o1.guard = none) (n2 : o2.guard = none) (n3 : o3.guard = none) (n4 : o4.guard = none) (n5 : o5.guard = none) (n6 : o6.guard = none) (n7 : o7.guard = none) (n8 : o8.guard = none) (n9 : o9.guard = none)
    (d0 : o0.dst = some 17) (d1 : o1.dst = some 18) (d2 : o2.dst = some 19) (d3 : o3.dst = some 20) (d4 : o4.dst = some 21) (d5 : o5.dst = some 22) (d6 : o6.dst = some 11) (d7 : o7.dst = some 12) (d8 : o8.dst = none) (d9 : o9.dst = none)
    (p0 : o0.op = .load L (.tmp 4)) (p1 : o1.op = .move (.tmp 1)) (p2 : o2.op = .call { callee := .value (.func f), args := #[.tmp 17, .tmp 18], argTypes := #[t0, t1] }) (p3 : o3.op = .load L (.tmp 4)) (p4 : o4.op = .move (.tmp 3)) (p5 : o5.op = .call { callee := .value (.func g), args := #[.tmp 20, .tmp 21], argTypes := #[t3, t4] })
    (p6 : o6.op = .alloc T) (p7 : o7.op = .alloc T) (p8 : o8.op = .store T (.tmp 11) (.tmp 19)) (p9 : o9.op = .store T (.tmp 12) (.tmp 22))
    (e7 : a0.tmps[1]? = some v0) (e0 : a0.tmps[3]? = some v3) (e5 : a0.tmps[4]? = some (.pointer (some ⟨gR, 0, none⟩))) (hs : 22 < a0.tmps.size)
    (hu : P.underlying L = some dL) (hd : aggD dL = true) (hsL : (P.info? L).map (·.size) = some RR.length) (hi : P.info? T = some i0) (hz : i0.zero = some (.agg Z.toArray)) (hiX : i0.size = X.length) (hiY : i0.size = Y.length) (hiZ : i0.size = Z.length) (hX1 : ∀ u ∈ X, u.oneCell' = true) (hY1 : ∀ u ∈ Y, u.oneCell' = true)
    (hR : ∀ w, Below B w0 w → ∀ j u, RR[j]? = some u → w.cell? ((⟨gR, 0, none⟩ : Addr).add j) = some u)
    (hcf : ∀ args w, (callFunc f args).run P w = .ok (.enter f args) w) (hcg : ∀ args w, (callFunc g args).run P w = .ok (.enter g args) w)
    (hf : ∀ w, Below B w0 w → B ≤ w.heap.size → Calls P f #[.agg RR.toArray, v0] w fun e w' => e = .returned (.agg X.toArray) ∧ Below w.heap.size w w')
    (hg : ∀ w, Below B w0 w → B ≤ w.heap.size → Calls P g #[.agg RR.toArray, v3] w fun e w' => e = .returned (.agg Y.toArray) ∧ Below w.heap.size w w')
    (hQ : ∀ g9 g10 w, Blk w g9 T X.toArray → Blk w g10 T Y.toArray → Below B w0 w → Q .normal ((((((((a0.put (some 17) (.agg RR.toArray)).put (some 18) v0).put (some 19) (.agg X.toArray)).put (some 20) (.agg RR.toArray)).put (some 21) v3).put (some 22) (.agg Y.toArray)).put (some 11) (.pointer (some ⟨g9, 0, none⟩))).put (some 12) (.pointer (some ⟨g10, 0, none⟩))) w) :
    ∀ (fuel : Nat) (b0 b1 b2 b3 b4 b5 b6 b7 b8 b9 : Bool) (g9 g10 : Nat) (a : Act) (w : World), Fr a0 (.agg RR.toArray) v0 (.agg X.toArray) (.agg RR.toArray) v3 (.agg Y.toArray) (.pointer (some ⟨g9, 0, none⟩)) (.pointer (some ⟨g10, 0, none⟩)) b0 b1 b2 b3 b4 b5 b6 b7 a → Wd T Z X Y B g9 g10 b6 b7 b8 b9 w0 w → nfB b0 + nfB b1 + nfB b2 + nfB b3 + nfB b4 + nfB b5 + nfB b6 + nfB b7 + nfB b8 + nfB b9 ≤ fuel → wpAny P .any ops Q fuel #[b0, b1, b2, b3, b4, b5, b6, b7, b8, b9] a w := by
  have hrdy : ∀ (b0 b1 b2 b3 b4 b5 b6 b7 b8 b9 : Bool) (i : Nat), i ∈ Region.ready .any ops #[b0, b1, b2, b3, b4, b5, b6, b7, b8, b9] → (i = 0 ∧ b0 = false) ∨ (i = 1 ∧ b1 = false) ∨ (i = 2 ∧ b2 = false ∧ b0 = true ∧ b1 = true) ∨ (i = 3 ∧ b3 = false) ∨ (i = 4 ∧ b4 = false) ∨ (i = 5 ∧ b5 = false ∧ b3 = true ∧ b4 = true) ∨ (i = 6 ∧ b6 = false) ∨ (i = 7 ∧ b7 = false) ∨ (i = 8 ∧ b8 = false ∧ b2 = true ∧ b6 = true ∧ b7 = true) ∨ (i = 9 ∧ b9 = false ∧ b5 = true ∧ b6 = true ∧ b7 = true) := fun b0 b1 b2 b3 b4 b5 b6 b7 b8 b9 i hi => up_or (List.all_eq_true.1 (hrdy0 b0 b1 b2 b3 b4 b5 b6 b7 b8 b9) i hi)
  have fin : ∀ (b0 b1 b2 b3 b4 b5 b6 b7 b8 b9 : Bool) (g9 g10 : Nat) (a : Act) (w : World), (b0 && b1 && b2 && b3 && b4 && b5 && b6 && b7 && b8 && b9) = true → Fr a0 (.agg RR.toArray) v0 (.agg X.toArray) (.agg RR.toArray) v3 (.agg Y.toArray) (.pointer (some ⟨g9, 0, none⟩)) (.pointer (some ⟨g10, 0, none⟩)) b0 b1 b2 b3 b4 b5 b6 b7 a → Wd T Z X Y B g9 g10 b6 b7 b8 b9 w0 w → Q .normal a w := by
    intro b0 b1 b2 b3 b4 b5 b6 b7 b8 b9 g9 g10 a w hb hF hW
    simp only [Bool.and_eq_true] at hb
    obtain ⟨⟨⟨⟨⟨⟨⟨⟨⟨rfl, rfl⟩, rfl⟩, rfl⟩, rfl⟩, rfl⟩, rfl⟩, rfl⟩, rfl⟩, rfl⟩ := hb
    rw [hF.out hs]
    exact hQ g9 g10 w (by simpa using (hW.nine rfl).1) (by simpa using (hW.ten rfl).1) hW.below
  have wn : ∀ (o : Oper) (y : Array Value), o.guard = none → Region.wanted o (yielded ops y) = true := fun o y h => by simp [Region.wanted, h]
  have hsz : (P.info? T).map (·.size) = some i0.size := by rw [hi]; rfl
  have hal : ∀ w : World, (Instr.alloc T true (.tuple #[])).run P w = .ok (.pointer (some ⟨w.heap.size, 0, none⟩)) (w.alloc (.cells Z.toArray T)) := fun w => by
    simp [Instr.alloc, zeroValue, typeInfo, hi, hz, newVar, newRow, Sem.run_bind, Value.cells]
  intro fuel
  induction fuel with
  | zero =>
    intro b0 b1 b2 b3 b4 b5 b6 b7 b8 b9 g9 g10 a w hF hW hn
    have ha : (b0 && b1 && b2 && b3 && b4 && b5 && b6 && b7 && b8 && b9) = true := by
      cases b0 <;> cases b1 <;> cases b2 <;> cases b3 <;> cases b4 <;> cases b5 <;> cases b6 <;> cases b7 <;> cases b8 <;> cases b9 <;> first | rfl | (exfalso; simp [nfB] at hn)
    refine ⟨?_, fin _ _ _ _ _ _ _ _ _ _ g9 g10 a w ha hF hW⟩
    simp only [Bool.and_eq_true] at ha
    obtain ⟨⟨⟨⟨⟨⟨⟨⟨⟨rfl, rfl⟩, rfl⟩, rfl⟩, rfl⟩, rfl⟩, rfl⟩, rfl⟩, rfl⟩, rfl⟩ := ha
    exact hend
  | succ fuel ih =>
    intro b0 b1 b2 b3 b4 b5 b6 b7 b8 b9 g9 g10 a w hF hW hn
    refine ⟨fun hr => fin _ _ _ _ _ _ _ _ _ _ g9 g10 a w (hfin _ _ _ _ _ _ _ _ _ _ hr) hF hW, fun i hi' => ?_⟩
    rcases hrdy _ _ _ _ _ _ _ _ _ _ i hi' with ⟨rfl, rfl⟩ | ⟨rfl, rfl⟩ | ⟨rfl, rfl, rfl, rfl⟩ | ⟨rfl, rfl⟩ | ⟨rfl, rfl⟩ | ⟨rfl, rfl, rfl, rfl⟩ | ⟨rfl, rfl⟩ | ⟨rfl, rfl⟩ | ⟨rfl, rfl, rfl, rfl, rfl⟩ | ⟨rfl, rfl, rfl, rfl, rfl⟩
    · refine wpOp_step h0 fun K hK => ?_
      rw [if_pos (wn _ _ n0)]
      refine wp_load_ag L (.tmp 4) p0 ⟨gR, 0, none⟩ (by rw [ev_tmp, hF.at_ 4]; simp [ex8, e5]) RR dL (hR w hW.below) hu hd hsL ?_
      rw [d0]
      exact hK _ _ (ih _ _ _ _ _ _ _ _ _ _ g9 g10 _ _ (hF.p0 hs) hW (by simp [nfB] at hn ⊢; omega))
    · refine wpOp_step h1 fun K hK => ?_
      rw [if_pos (wn _ _ n1)]
      unfold Oper.wp
      rw [BigFrame.run_move _ p1, Oper.upon_value, d1, ev_tmp, hF.at_ 1]
      simp only [ex8, e7, Option.getD_some]
      exact hK _ _ (ih _ _ _ _ _ _ _ _ _ _ g9 g10 _ _ (hF.p1 hs) hW (by simp [nfB] at hn ⊢; omega))
    · refine wpOp_step h2 fun K hK => ?_
      rw [if_pos (wn _ _ n2)]
      have x1 : (a.tmps[17]?).getD undef = .agg RR.toArray := by rw [hF.at_ 17]; simp [ex8]
      have x2 : (a.tmps[18]?).getD undef = v0 := by rw [hF.at_ 18]; simp [ex8]
      unfold Oper.wp execOp
      simp [go_sem, p2, x1, x2]
      rw [hcf, Oper.upon_enter]
      refine Calls.mono (hf w hW.below hW.le) ?_
      rintro e w' ⟨rfl, hb⟩
      simp only [d2]
      exact hK _ _ (ih _ _ _ _ _ _ _ _ _ _ g9 g10 _ _ (hF.p2 hs) (hW.step hb) (by simp [nfB] at hn ⊢; omega))
    · refine wpOp_step h3 fun K hK => ?_
      rw [if_pos (wn _ _ n3)]
      refine wp_load_ag L (.tmp 4) p3 ⟨gR, 0, none⟩ (by rw [ev_tmp, hF.at_ 4]; simp [ex8, e5]) RR dL (hR w hW.below) hu hd hsL ?_
      rw [d3]
      exact hK _ _ (ih _ _ _ _ _ _ _ _ _ _ g9 g10 _ _ (hF.p3 hs) hW (by simp [nfB] at hn ⊢; omega))
    · refine wpOp_step h4 fun K hK => ?_
      rw [if_pos (wn _ _ n4)]
      unfold Oper.wp
      rw [BigFrame.run_move _ p4, Oper.upon_value, d4, ev_tmp, hF.at_ 3]
      simp only [ex8, e0, Option.getD_some]
      exact hK _ _ (ih _ _ _ _ _ _ _ _ _ _ g9 g10 _ _ (hF.p4 hs) hW (by simp [nfB] at hn ⊢; omega))
    · refine wpOp_step h5 fun K hK => ?_
      rw [if_pos (wn _ _ n5)]
      have x1 : (a.tmps[20]?).getD undef = .agg RR.toArray := by rw [hF.at_ 20]; simp [ex8]
      have x2 : (a.tmps[21]?).getD undef = v3 := by rw [hF.at_ 21]; simp [ex8]
      unfold Oper.wp execOp
      simp [go_sem, p5, x1, x2]
      rw [hcg, Oper.upon_enter]
      refine Calls.mono (hg w hW.below hW.le) ?_
      rintro e w' ⟨rfl, hb⟩
      simp only [d5]
      exact hK _ _ (ih _ _ _ _ _ _ _ _ _ _ g9 g10 _ _ (hF.p5 hs) (hW.step hb) (by simp [nfB] at hn ⊢; omega))
    · have q8 : b8 = false := by
        cases b8
        · rfl
        · have := hW.k8 rfl; cases this
      subst q8
      refine wpOp_step h6 fun K hK => ?_
      rw [if_pos (wn _ _ n6)]
      unfold Oper.wp execOp
      simp only [p6, Sem.run_bind, hal, Result.andThen_ok, Sem.run_pure, Oper.upon_value, d6]
      exact hK _ _ (ih _ _ _ _ _ _ _ _ _ _ w.heap.size g10 _ _ (hF.p6 hs) hW.new9 (by simp [nfB] at hn ⊢; omega))
    · have q9 : b9 = false := by
        cases b9
        · rfl
        · have := hW.k9 rfl; cases this
      subst q9
      refine wpOp_step h7 fun K hK => ?_
      rw [if_pos (wn _ _ n7)]
      unfold Oper.wp execOp
      simp only [p7, Sem.run_bind, hal, Result.andThen_ok, Sem.run_pure, Oper.upon_value, d7]
      exact hK _ _ (ih _ _ _ _ _ _ _ _ _ _ g9 w.heap.size _ _ (hF.p7 hs) hW.new10 (by simp [nfB] at hn ⊢; omega))
    · refine wpOp_step h8 fun K hK => ?_
      rw [if_pos (wn _ _ n8)]
      have x1 : a.eval (.tmp 11) = .pointer (some ⟨g9, 0, none⟩) := by rw [ev_tmp, hF.at_ 11]; simp [ex8]
      have x2 : a.eval (.tmp 19) = .agg X.toArray := by rw [ev_tmp, hF.at_ 19]; simp [ex8]
      have hB9 : Blk w g9 T Z.toArray := by simpa using (hW.nine rfl).1
      unfold Oper.wp execOp
      simp only [p8, x1, x2, Instr.storeAt, Instr.sureAddr, Sem.run_bind, Sem.run_pure, Result.andThen_ok, run_storeVar_at w g9 0 T T Z X (.agg X.toArray) hB9 rfl (by rw [hsz, hiX]) (by omega) hX1]
      rw [Oper.upon_skip, d8]
      have ho : overC Z 0 X = X := by
        unfold overC
        rw [List.take_zero, List.nil_append, Nat.zero_add, List.drop_of_length_le (by omega), List.append_nil]
      have hx := setRow_heap w g9 _ (overC Z 0 X).toArray T (0, 0) hB9
      rw [ho] at hx
      exact hK _ _ (ih _ _ _ _ _ _ _ _ _ _ g9 g10 _ _ hF (hW.set9 (by rw [ho]; exact hx) (grown_setRow w g9 _)) (by simp [nfB] at hn ⊢; omega))
    · refine wpOp_step h9 fun K hK => ?_
      rw [if_pos (wn _ _ n9)]
      have x1 : a.eval (.tmp 12) = .pointer (some ⟨g10, 0, none⟩) := by rw [ev_tmp, hF.at_ 12]; simp [ex8]
      have x2 : a.eval (.tmp 22) = .agg Y.toArray := by rw [ev_tmp, hF.at_ 22]; simp [ex8]
      have hB9 : Blk w g10 T Z.toArray := by simpa using (hW.ten rfl).1
      unfold Oper.wp execOp
      simp only [p9, x1, x2, Instr.storeAt, Instr.sureAddr, Sem.run_bind, Sem.run_pure, Result.andThen_ok, run_storeVar_at w g10 0 T T Z Y (.agg Y.toArray) hB9 rfl (by rw [hsz, hiY]) (by omega) hY1]
      rw [Oper.upon_skip, d9]
      have ho : overC Z 0 Y = Y := by
        unfold overC
        rw [List.take_zero, List.nil_append, Nat.zero_add, List.drop_of_length_le (by omega), List.append_nil]
      have hx := setRow_heap w g10 _ (overC Z 0 Y).toArray T (0, 0) hB9
      rw [ho] at hx
      exact hK _ _ (ih _ _ _ _ _ _ _ _ _ _ g9 g10 _ _ hF (hW.set10 (by rw [ho]; exact hx) (grown_setRow w g10 _)) (by simp [nfB] at hn ⊢; omega))
end Go.Proofs.YtfjflefgclfbfaaGreat
