/-
  What stands while NormSame runs: a pool, three rows. Conditions: those written in each statement.
-/
import Derived.Test.YtfjflefgclfbfaaUi
import Derived.Test.YtfjflefgclfbfaaKe
namespace Go.Proofs.Ytfjflefgclfbfaa
open Go.RowKit
set_option linter.unusedVariables false
set_option linter.unusedSimpArgs false
set_option maxRecDepth 100000
theorem infMk : (Try.prog.info? 31).map (fun i => (i.zero, i.size, i.bytes)) = some (some (.agg #[.int .i64 0, .int .i8 0, .int .i8 0, .int .i64 0, .int .i64 0, .int .i64 0, .int .u64 0]), 7, 48) := by kernel_rfl
/-- What was made so far, each of the numbers that were there at its time. -/
def Hist (p : PS) (ps : List MD) (lm : List Int) : Prop := ps.length = lm.length ∧ ∀ (i : Nat) (x : MD) (n : Int), ps[i]? = some x → lm[i]? = some n → x.wf ∧ ∃ p0 r, WfP p0 ∧ (∀ t ∈ p0.T, t.wf) ∧ MkS p0 x (lm.take i) r ∧ r.2.2 = 0 ∧ r.2.1 = n ∧ Ext r.1 p
theorem Hist.nil (p : PS) : Hist p [] [] := ⟨rfl, fun i x n h => by simp at h⟩
theorem Hist.ext {p q : PS} {ps : List MD} {lm : List Int} (h : Hist p ps lm) (he : Ext p q) : Hist q ps lm :=
  ⟨h.1, fun i x n h1 h2 => by obtain ⟨hx, p0, r, a, b, c, d, e, f⟩ := h.2 i x n h1 h2; exact ⟨hx, p0, r, a, b, c, d, e, f.trans he⟩⟩
theorem Hist.snoc {p q : PS} {ps : List MD} {lm : List Int} (h : Hist p ps lm) (he : Ext p q) {x : MD} {r : RS} (hx : x.wf) (hw : WfP p) (hr : ∀ t ∈ p.T, t.wf) (hm : MkS p x lm r) (h0 : r.2.2 = 0) (hq : Ext r.1 q) : Hist q (ps ++ [x]) (lm ++ [r.2.1]) := by
  refine ⟨by simp [h.1], fun i y n h1 h2 => ?_⟩
  by_cases hi : i < lm.length
  · rw [List.getElem?_append_left (by rw [h.1]; exact hi)] at h1
    rw [List.getElem?_append_left hi] at h2
    rw [List.take_append_of_le_length (by omega)]
    exact (h.ext he).2 i y n h1 h2
  · have hl : i = lm.length := by
      have := (List.getElem?_eq_some_iff.1 h2).1
      simp at this
      omega
    subst hl
    rw [← h.1, List.getElem?_append_right (Nat.le_refl _)] at h1
    rw [List.getElem?_append_right (Nat.le_refl _)] at h2
    simp at h1 h2
    subst h1 h2
    exact ⟨hx, p, r, hw, hr, by rw [List.take_append_of_le_length (Nat.le_refl _), List.take_length]; exact hm, h0, rfl, hq⟩
theorem Hist.wfs {p : PS} {ps : List MD} {lm : List Int} (h : Hist p ps lm) : ∀ x ∈ ps, x.wf := by
  intro x hx
  obtain ⟨i, hi⟩ := List.mem_iff_getElem?.1 hx
  have hl := (List.getElem?_eq_some_iff.1 hi).1
  rw [h.1] at hl
  exact (h.2 i x _ hi (List.getElem?_eq_getElem hl)).1
/-- A row of the call's own, beside a pool's blocks. -/
structure RowA (B : Nat) (e : TypeId) (sz n : Nat) (xs : List Value) (sv : Value) (F : Nat → Prop) (W : World) : Prop where
  own : W.ownsRow B e sz sv n xs
  nf : ∀ b, sv.ownBlock = some b → ¬ F b
section
variable {B base g : Nat} {e : TypeId} {sz n : Nat} {xs : List Value} {sv : Value} {F F' G : Nat → Prop} {W V : World} {p p' : PS}
theorem RowA.nil (B : Nat) (e : TypeId) (sz : Nat) (F : Nat → Prop) (W : World) : RowA B e sz 0 [] (.slice none 0 0) F W := ⟨⟨by simp, .inl ⟨rfl, rfl⟩⟩, fun b q => by cases q⟩
theorem RowA.chg (h : RowA B e sz n xs sv F W) (hc : Chg G W V) (hg : ∀ b, sv.ownBlock = some b → ¬ G b) : RowA B e sz n xs sv F V := ⟨hc.own h.own hg, h.nf⟩
theorem RowA.below (h : RowA B e sz n xs sv F W) (hb : Below W.heap.size W V) : RowA B e sz n xs sv F V := h.chg (G := fun _ => False) (.of_below hb) fun _ _ q => q
theorem RowA.pg (h : RowA B e sz n xs sv F W) (k : PG base g F W F' p V) : RowA B e sz n xs sv F' V :=
  ⟨k.chg.own h.own h.nf, fun b q r => (k.new b r).elim (h.nf b q) fun e => by have := (own_ge h.own b q).2; omega⟩
theorem RowA.slice (h : RowA B e sz n xs sv F W) : ∃ A c, sv = .slice A n c ∧ n ≤ c ∧ Reads W W.heap.size sz A n xs := by
  obtain ⟨A, c, e, h1, h2⟩ := (RowL.of_own h.own).slice
  exact ⟨A, c, e, h1, h2⟩
end
def rangeC (k : Nat) : List Value := (List.range k).map fun i : Nat => Value.int .i64 (i : Int)
theorem rangeC_snoc (k : Nat) : rangeC k ++ [.int .i64 (k : Int)] = rangeC (k + 1) := by unfold rangeC; rw [List.range_succ, List.map_append]; rfl
/-- A pool, the numbers, the ways, and how many numbers there were. -/
structure K3 (w : World) (g : Nat) (p : PS) (F : Nat → Prop) (lm : List Int) (ps : List MD) (k : Nat) (sv sp sh : Value) (W : World) : Prop where
  pool : PoolAt W w.heap.size F g p
  ra : RowA w.heap.size 3 1 lm.length (lm.map (Value.int .i64)) sv F W
  rp : RowA w.heap.size 31 7 ps.length (ps.flatMap MD.cells) sp F W
  rh : RowA w.heap.size 3 1 k (rangeC k) sh F W
  ap : ∀ b, sv.ownBlock = some b → sp.ownBlock ≠ some b
  ah : ∀ b, sv.ownBlock = some b → sh.ownBlock ≠ some b
  ph : ∀ b, sp.ownBlock = some b → sh.ownBlock ≠ some b
  below : Below w.heap.size w W
  ib : ∀ v ∈ lm, I64 v
section
variable {w W V : World} {g k : Nat} {p p' : PS} {F F' : Nat → Prop} {lm : List Int} {ps : List MD} {sv sp sh : Value}
theorem K3.step (h : K3 w g p F lm ps k sv sp sh W) (hb : Below W.heap.size W V) : K3 w g p F lm ps k sv sp sh V :=
  ⟨h.pool.below hb, h.ra.below hb, h.rp.below hb, h.rh.below hb, h.ap, h.ah, h.ph, h.below.trans (hb.mono h.below.size), h.ib⟩
theorem K3.pg (h : K3 w g p F lm ps k sv sp sh W) (q : PG w.heap.size g F W F' p' V) : K3 w g p' F' lm ps k sv sp sh V :=
  ⟨q.pool, h.ra.pg q, h.rp.pg q, h.rh.pg q, h.ap, h.ah, h.ph, h.below.trans (q.chg.below (fun b r => (h.pool.fb b r).1) h.below.size), h.ib⟩
/-- A block of the call's own, that is none of these, is written. -/
theorem K3.grown (h : K3 w g p F lm ps k sv sp sh W) {r : Nat} (hg : W.grownBy V (some r)) (hr : ¬ F r) (hw : w.heap.size ≤ r) (h1 : sv.ownBlock ≠ some r) (h2 : sp.ownBlock ≠ some r) (h3 : sh.ownBlock ≠ some r) : K3 w g p F lm ps k sv sp sh V where
  pool := h.pool.chg (G := fun b => b = r) (Chg.of_grown hg fun q e => .inl (by injection e with e; exact e.symm)) (fun b q e => hr (e ▸ q))
  ra := h.ra.chg (G := fun b => b = r) (Chg.of_grown hg fun q e => .inl (by injection e with e; exact e.symm)) fun b e q => h1 (q ▸ e)
  rp := h.rp.chg (G := fun b => b = r) (Chg.of_grown hg fun q e => .inl (by injection e with e; exact e.symm)) fun b e q => h2 (q ▸ e)
  rh := h.rh.chg (G := fun b => b = r) (Chg.of_grown hg fun q e => .inl (by injection e with e; exact e.symm)) fun b e q => h3 (q ▸ e)
  ap := h.ap
  ah := h.ah
  ph := h.ph
  below := h.below.trans ((Below.refl w.heap.size W).grown hg h.below.size fun b q => by injection q with q; omega)
  ib := h.ib
/-- One of the rows is appended to. -/
theorem K3.pushP (h : K3 w g p F lm ps k sv sp sh W) {x : MD} {s' : Value} (ho : V.ownsRow w.heap.size 31 7 s' (ps.length + 1) (ps.flatMap MD.cells ++ x.cells)) (hg : W.grownBy V sp.ownBlock) (hn : ∀ b, s'.ownBlock = some b → sp.ownBlock = some b ∨ W.heap.size ≤ b) : K3 w g p F lm (ps ++ [x]) k sv s' sh V where
  pool := h.pool.chg (G := fun b => sp.ownBlock = some b) (Chg.of_grown hg fun r e => .inl e) fun b q e => h.rp.nf b e q
  ra := h.ra.chg (G := fun b => sp.ownBlock = some b) (Chg.of_grown hg fun r e => .inl e) fun b e q => h.ap b e q
  rp := ⟨by rw [List.length_append, List.flatMap_append]; simpa using ho, fun b q r => (hn b q).elim (fun e => h.rp.nf b e r) fun e => by have := (h.pool.fb b r).2; omega⟩
  rh := h.rh.chg (G := fun b => sp.ownBlock = some b) (Chg.of_grown hg fun r e => .inl e) fun b e q => h.ph b q e
  ap := fun b e q => (hn b q).elim (h.ap b e) fun z => by have := (own_ge h.ra.own b e).2; omega
  ah := h.ah
  ph := fun b q e => (hn b q).elim (fun z => h.ph b z e) fun z => by have := (own_ge h.rh.own b e).2; omega
  below := h.below.trans ((Below.refl w.heap.size W).grown hg h.below.size fun b q => (own_ge h.rp.own b q).1)
  ib := h.ib
theorem K3.pushH (h : K3 w g p F lm ps k sv sp sh W) {s' : Value} (ho : V.ownsRow w.heap.size 3 1 s' (k + 1) (rangeC k ++ [.int .i64 (k : Int)])) (hg : W.grownBy V sh.ownBlock) (hn : ∀ b, s'.ownBlock = some b → sh.ownBlock = some b ∨ W.heap.size ≤ b) : K3 w g p F lm ps (k + 1) sv sp s' V where
  pool := h.pool.chg (G := fun b => sh.ownBlock = some b) (Chg.of_grown hg fun r e => .inl e) fun b q e => h.rh.nf b e q
  ra := h.ra.chg (G := fun b => sh.ownBlock = some b) (Chg.of_grown hg fun r e => .inl e) fun b e q => h.ah b e q
  rp := h.rp.chg (G := fun b => sh.ownBlock = some b) (Chg.of_grown hg fun r e => .inl e) fun b e q => h.ph b e q
  rh := ⟨by rw [← rangeC_snoc]; exact ho, fun b q r => (hn b q).elim (fun e => h.rh.nf b e r) fun e => by have := (h.pool.fb b r).2; omega⟩
  ap := h.ap
  ah := fun b e q => (hn b q).elim (h.ah b e) fun z => by have := (own_ge h.ra.own b e).2; omega
  ph := fun b e q => (hn b q).elim (h.ph b e) fun z => by have := (own_ge h.rp.own b e).2; omega
  below := h.below.trans ((Below.refl w.heap.size W).grown hg h.below.size fun b q => (own_ge h.rh.own b q).1)
  ib := h.ib
theorem K3.pushA (h : K3 w g p F lm ps k sv sp sh W) {v : Int} (hv : I64 v) {s' : Value} (ho : V.ownsRow w.heap.size 3 1 s' (lm.length + 1) (lm.map (Value.int .i64) ++ [.int .i64 v])) (hg : W.grownBy V sv.ownBlock) (hn : ∀ b, s'.ownBlock = some b → sv.ownBlock = some b ∨ W.heap.size ≤ b) : K3 w g p F (lm ++ [v]) ps k s' sp sh V where
  pool := h.pool.chg (G := fun b => sv.ownBlock = some b) (Chg.of_grown hg fun r e => .inl e) fun b q e => h.ra.nf b e q
  ra := ⟨by rw [List.length_append, List.map_append]; exact ho, fun b q r => (hn b q).elim (fun e => h.ra.nf b e r) fun e => by have := (h.pool.fb b r).2; omega⟩
  rp := h.rp.chg (G := fun b => sv.ownBlock = some b) (Chg.of_grown hg fun r e => .inl e) fun b e q => h.ap b q e
  rh := h.rh.chg (G := fun b => sv.ownBlock = some b) (Chg.of_grown hg fun r e => .inl e) fun b e q => h.ah b q e
  ap := fun b q e => (hn b q).elim (fun z => h.ap b z e) fun z => by have := (own_ge h.rp.own b e).2; omega
  ah := fun b q e => (hn b q).elim (fun z => h.ah b z e) fun z => by have := (own_ge h.rh.own b e).2; omega
  ph := h.ph
  below := h.below.trans ((Below.refl w.heap.size W).grown hg h.below.size fun b q => (own_ge h.ra.own b q).1)
  ib := fun u hu => by
    rcases List.mem_append.1 hu with e | e
    · exact h.ib u e
    · simp at e; rw [e]; exact hv
theorem reads_take {B n j : Nat} {A : Option Addr} {xs : List Value} (h : Reads W B 1 A n xs) (hj : j ≤ n) : Reads W B 1 A j (xs.take j) := by
  refine ⟨by rw [List.length_take, h.1]; omega, fun q => ?_⟩
  obtain ⟨ad, e, hb, hc⟩ := h.2 (by omega)
  refine ⟨ad, e, hb, fun i u hu => hc i u ?_⟩
  rw [List.getElem?_take] at hu
  split at hu
  · exact hu
  · cases hu
theorem K3.had {j c : Nat} {A : Option Addr} (h : K3 w g p F lm ps k sv sp (.slice A k c) W) (hj : j < k) : ∃ ad, A = some ad ∧ W.cell? (ad.add j) = some (.int .i64 (j : Int)) := by
  obtain ⟨A', c', e, _, hr⟩ := h.rh.slice
  injection e with e1 _ _
  subst e1
  obtain ⟨ad, u, e, _, hu, hc⟩ := hr.at_ hj
  refine ⟨ad, e, ?_⟩
  unfold rangeC at hu
  rw [List.getElem?_map, List.getElem?_range hj] at hu
  injection hu with hu
  rw [hc, ← hu]
theorem K3.num {j c : Nat} {A : Option Addr} (h : K3 w g p F lm ps k (.slice A lm.length c) sp sh W) (hj : j < lm.length) : ∃ ad n, A = some ad ∧ lm[j]? = some n ∧ W.cell? (ad.add j) = some (.int .i64 n) ∧ Reads W W.heap.size 1 A j ((lm.take j).map (Value.int .i64)) ∧ lm.length ≤ c := by
  obtain ⟨A', c', e, hc', hr⟩ := h.ra.slice
  injection e with e1 _ e3
  subst e1 e3
  obtain ⟨ad, u, e, _, hu, hc⟩ := hr.at_ hj
  have hn : lm[j]? = some (lm[j]'hj) := List.getElem?_eq_getElem hj
  rw [List.getElem?_map, hn] at hu
  injection hu with hu
  refine ⟨ad, lm[j]'hj, e, hn, by rw [hc, ← hu], ?_, hc'⟩
  rw [List.map_take]
  exact reads_take hr (by omega)
theorem K3.way {j c : Nat} {A : Option Addr} (h : K3 w g p F lm ps k sv (.slice A ps.length c) sh W) (hwf : ∀ x ∈ ps, x.wf) (hj : j < ps.length) : ∃ ad x, A = some ad ∧ ps[j]? = some x ∧ (∀ i u, x.cells[i]? = some u → W.cell? ((ad.add (j * 7)).add i) = some u) ∧ ps.length ≤ c := by
  obtain ⟨A', c', e, hc', hr⟩ := h.rp.slice
  injection e with e1 _ e3
  subst e1 e3
  obtain ⟨ad, x, e, _, hx, _, hc⟩ := MksAt.at_ (show MksAt W W.heap.size _ ps.length ps from ⟨rfl, hwf, hr⟩) hj
  exact ⟨ad, x, e, hx, hc, hc'⟩
theorem K3.had1 {j c : Nat} {ad : Addr} (h : K3 w g p F lm ps k sv sp (.slice (some ad) k c) W) (hj : j < k) : W.cell? (ad.add j) = some (.int .i64 (j : Int)) := by
  obtain ⟨ad', e, hc⟩ := h.had hj
  injection e with e
  rw [e]
  exact hc
theorem K3.num1 {j c : Nat} {ad : Addr} {n : Int} (h : K3 w g p F lm ps k (.slice (some ad) lm.length c) sp sh W) (hj : j < lm.length) (hn : lm[j]? = some n) : W.cell? (ad.add j) = some (.int .i64 n) := by
  obtain ⟨ad', n', e, hn', hc, _⟩ := h.num hj
  injection e with e
  rw [hn] at hn'
  injection hn' with hn'
  rw [e, hn']
  exact hc
end
theorem swap_over (x : MD) : overC (overC x.cells 3 [.int .i64 x.b]) 4 [.int .i64 x.a] = (swapM x).cells := by
  unfold overC
  simp [MD.cells, swapM]
theorem over_b (x : MD) : overC x.cells 3 [.int .i64 x.b] = [.int .i64 x.kind, .int .i8 x.op, .int .i8 x.w, .int .i64 x.b, .int .i64 x.b, .int .i64 x.c, .int .u64 x.n] := by
  unfold overC
  simp [MD.cells]
end Go.Proofs.Ytfjflefgclfbfaa
