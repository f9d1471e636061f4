/-
  Copy: a pool's terms put one behind the other come to the same pool; the walk. Conditions: those written in each statement.
-/
import Derived.Test.YtafbjcnonhpldaaAp
namespace Go.Proofs.Ytafbjcnonhpldaa
open Go.RowKit Go.Shelf
attribute [local go_sem] Oper.semAt_some
set_option linter.unusedVariables false
set_option linter.unusedSimpArgs false
/-- The first k terms, put, are the pool's first k. -/
theorem putAll_take {p : PS} (h : WfP p) : ∀ k, k ≤ p.T.length → putAll ⟨[], []⟩ (p.T.take k) = ⟨p.T.take k, p.D.take k⟩
  | 0, _ => by simp [putAll]
  | k + 1, hk => by
    have hT : p.T[k]? = some p.T[k] := List.getElem?_eq_getElem (by omega)
    generalize p.T[k] = t at hT
    have hD := h.deep k t hT
    have hpart := h.part k t hT
    have hlow := h.low _ (List.mem_of_getElem? hD)
    have hfew := h.few
    have hlen := h.len
    have hTk : (p.T.take k).length = k := by simp; omega
    have e1 : p.T.take (k + 1) = p.T.take k ++ [t] := by rw [List.take_add_one, hT]; rfl
    have e2 : p.D.take (k + 1) = p.D.take k ++ [dmax p.D (prtL t)] := by rw [List.take_add_one, hD]; rfl
    rw [e1, putAll_snoc, putAll_take h k (by omega), e2]
    have hdm : dmax (p.D.take k) (prtL t) = dmax p.D (prtL t) := by
      unfold dmax
      have : ∀ (l : List Int), (∀ q ∈ l, 0 ≤ q ∧ q < (k : Int)) → ∀ a, l.foldl (fun d n => max d ((p.D.take k).getD n.toNat 0 + 1)) a = l.foldl (fun d n => max d (p.D.getD n.toNat 0 + 1)) a := by
        intro l
        induction l with
        | nil => intro _ a; rfl
        | cons x r ih =>
          intro hl a
          have hx := hl x (by simp)
          rw [List.foldl_cons, List.foldl_cons, ih (fun q hq => hl q (by simp [hq]))]
          congr 2
          rw [List.getD_eq_getElem?_getD, List.getD_eq_getElem?_getD, List.getElem?_take_of_lt (by omega)]
      exact this _ hpart 1
    have hok : okP (p.T.take k) t = true := by
      unfold okP
      rw [h.ok k t hT]
      have h1 : (prtL t).all (hasB (p.T.take k)) = true := by
        rw [List.all_eq_true]
        intro q hq
        have := hpart q hq
        unfold hasB
        rw [hTk]
        simp
        omega
      have h2 : clashB (p.T.take k) t = false := by
        unfold clashB
        cases hw : Go.Proofs.Ytafbjcnonhpldaa.wideF (p.T.take k) t.n with
        | none => simp
        | some w' =>
          obtain ⟨i, u, hu, hk1, hn, hw'⟩ := wideF_some hw
          have hik : i < k := by have := (List.getElem?_eq_some_iff.1 hu).1; omega
          rw [List.getElem?_take_of_lt hik] at hu
          by_cases ht1 : t.kind = 1
          · have := h.wide i k u t hu hT hk1 ht1 hn
            simp [← hw', this]
          · simp [ht1]
      rw [h1, h2]
      rfl
    have hat : atT (p.T.take k) t = none := by
      cases e : atT (p.T.take k) t with
      | none => rfl
      | some i =>
        have hu := atT_some e
        have hik : i < k := by have := (List.getElem?_eq_some_iff.1 hu).1; omega
        rw [List.getElem?_take_of_lt hik] at hu
        have := h.once i k t hu hT
        omega
    unfold putP
    rw [if_pos ⟨hok, hat, by show (p.T.take k).length < 4000; rw [hTk]; omega, by show dmax (p.D.take k) _ ≤ 256; rw [hdm]; exact hlow.2⟩]
    rw [hdm]
theorem putAll_self {p : PS} (h : WfP p) : putAll ⟨[], []⟩ p.T = p := by
  have := putAll_take h p.T.length (Nat.le_refl _)
  rw [List.take_length] at this
  rw [this, ← h.len, List.take_length]
/-- A block of cells. -/
def CellsB (W : World) (b : Nat) : Prop := ∃ ob : Obj, W.heap[b]? = some ob ∧ ob.isCells = true
theorem own_cells {w : World} {base : Nat} {e : TypeId} {size n : Nat} {v : Value} {xs : List Value} (h : w.ownsRow base e size v n xs) {b : Nat} (hb : v.ownBlock = some b) : CellsB w b := by
  rcases h.2 with h | ⟨g, cap, cur, h1, h2, h3, h4⟩
  · rw [h.1] at hb; cases hb
  · rw [h1] at hb
    injection hb with hb
    subst hb
    exact ⟨_, h3, rfl⟩
section
variable {w : World} {base g : Nat} {F : Nat → Prop} {p : PS}
/-- Where a pool's two maps lie. -/
def MapsAt (w : World) (g o v : Nat) : Prop := w.cell? ⟨g, 2, none⟩ = some (.map (some o)) ∧ w.cell? ⟨g, 3, none⟩ = some (.map (some v))
theorem PoolAt.maps (h : PoolAt w base F g p) : ∃ o v, MapsAt w g o v ∧ F o ∧ F v := by
  obtain ⟨ls, ds, o, v, h1, h2, h3, h4, h5, h6, hov, f1, f2, f3, f4, f5⟩ := h.ex
  exact ⟨o, v, ⟨h1.cell 2, h1.cell 3⟩, f2, f3⟩
theorem PoolAt.tight (h : PoolAt w base F g p) {o v : Nat} (hm : MapsAt w g o v) : ∃ F', PoolAt w base F' g p ∧ (∀ b, F' b → F b) ∧ (∀ b, F' b → b = o ∨ b = v ∨ CellsB w b) := by
  obtain ⟨ls, ds, o', v', h1, h2, h3, h4, h5, h6, hov, f1, f2, f3, f4, f5⟩ := h.ex
  have e1 : o' = o := by have := (h1.cell 2).symm.trans hm.1; simpa using this
  have e2 : v' = v := by have := (h1.cell 3).symm.trans hm.2; simpa using this
  subst e1
  subst e2
  refine ⟨fun b => b = g ∨ b = o' ∨ b = v' ∨ ls.ownBlock = some b ∨ ds.ownBlock = some b, ⟨⟨ls, ds, o', v', h1, h2, h3, h4, h5, h6, hov, .inl rfl, .inr (.inl rfl), .inr (.inr (.inl rfl)), fun b q => .inr (.inr (.inr (.inl q))), fun b q => .inr (.inr (.inr (.inr q)))⟩, h.wf, h.rng, ?_⟩, ?_, ?_⟩
  · rintro b (rfl | rfl | rfl | q | q)
    · exact h.fb _ f1
    · exact h.fb _ f2
    · exact h.fb _ f3
    · exact h.fb _ (f4 b q)
    · exact h.fb _ (f5 b q)
  · rintro b (rfl | rfl | rfl | q | q)
    · exact f1
    · exact f2
    · exact f3
    · exact f4 b q
    · exact f5 b q
  · rintro b (rfl | rfl | rfl | q | q)
    · exact .inr (.inr ⟨_, h1, rfl⟩)
    · exact .inl rfl
    · exact .inr (.inl rfl)
    · exact .inr (.inr (own_cells h2 q))
    · exact .inr (.inr (own_cells h3 q))
end
/-- What stands between two rounds: the copy so far, the variables' boxes. -/
structure CopyI (B gq o v B3 Bs : Nat) (w : World) (T : List TD) (F : Nat → Prop) (W : World) : Prop where
  pool : PoolAt W w.heap.size F gq (putAll ⟨[], []⟩ T)
  maps : MapsAt W gq o v
  tight : ∀ b, F b → b = o ∨ b = v ∨ CellsB W b
  box : Boxed W B3 24 (.pointer (some ⟨gq, 0, none⟩))
  below : Below w.heap.size w W
  ob : o < B
  vb : v < B
  fb3 : ¬ F B3
  fbs : ¬ F Bs
  size : B ≤ W.heap.size
  old : w.heap.size ≤ B
  bs : Bs < B
section
variable {B gq o v B3 Bs : Nat} {w : World} {T : List TD} {F : Nat → Prop} {W V : World}
theorem CopyI.step (h : CopyI B gq o v B3 Bs w T F W) {row : Option Nat} (hg : W.grownBy V row) (hr : ∀ r, row = some r → B ≤ r ∧ ∃ ob : Obj, W.heap[r]? = some ob ∧ ob.isCells = false) : CopyI B gq o v B3 Bs w T F V where
  pool := h.pool.chg (Chg.of_grown hg (fun g e => .inl (e.symm : some g = row))) (fun b q e => by
    obtain ⟨h1, ob, h2, h3⟩ := hr b e.symm
    rcases h.tight b q with rfl | rfl | ⟨ob', h4, h5⟩
    · have := h.ob; omega
    · have := h.vb; omega
    · rw [h2] at h4; cases h4; rw [h3] at h5; cases h5)
  maps := ⟨cell_kept h.maps.1 hg (fun r e => (hr r e).2), cell_kept h.maps.2 hg (fun r e => (hr r e).2)⟩
  tight := fun b q => by
    rcases h.tight b q with e | e | ⟨ob', h4, h5⟩
    · exact .inl e
    · exact .inr (.inl e)
    · refine .inr (.inr ⟨ob', (hg.block b (Array.getElem?_eq_some_iff.1 h4).1 (fun e => ?_)).trans h4, h5⟩)
      obtain ⟨h1, ob, h2, h3⟩ := hr b e.symm
      rw [h2] at h4; cases h4; rw [h3] at h5; cases h5
  box := boxed_own B3 24 (fun _ : Unit => Value.pointer (some ⟨gq, 0, none⟩)) () W V row h.box hg (fun r e => (hr r e).2)
  below := h.below.grown hg (Nat.le_trans h.old h.size) (fun k e => Nat.le_trans h.old (hr k e).1)
  ob := h.ob
  vb := h.vb
  fb3 := h.fb3
  fbs := h.fbs
  size := Nat.le_trans h.size hg.size
  old := h.old
  bs := h.bs
/-- A term more. -/
theorem CopyI.putp {t : TD} {F2 : Nat → Prop} (h : CopyI B gq o v B3 Bs w T F W) (hp : PoolAt V w.heap.size F2 gq (putP (putAll ⟨[], []⟩ T) t)) (hc : Chg F W V) (hf : ∀ b, F2 b → F b ∨ W.heap.size ≤ b)
    (h2 : V.cell? ⟨gq, 2, none⟩ = W.cell? ⟨gq, 2, none⟩) (h3 : V.cell? ⟨gq, 3, none⟩ = W.cell? ⟨gq, 3, none⟩) :
    (∃ F', CopyI B gq o v B3 Bs w (T ++ [t]) F' V) ∧ KeepsFrom B W V ∧ KpC w.heap.size Bs W V := by
  have hm : MapsAt V gq o v := ⟨h2.trans h.maps.1, h3.trans h.maps.2⟩
  obtain ⟨F', p1, p2, p3⟩ := hp.tight hm
  have hb : Below w.heap.size W V := hc.below (fun b q => (h.pool.fb b q).1) h.below.size
  have hbs : Bs < W.heap.size := Nat.lt_of_lt_of_le h.bs h.size
  have hb3 := h.box.lt
  refine ⟨⟨F', ⟨by rw [putAll_snoc]; exact p1, hm, p3, (hc.block B3 hb3 h.fb3).trans h.box, h.below.trans hb, h.ob, h.vb, ?_, ?_, Nat.le_trans h.size hc.size, h.old, h.bs⟩⟩, ⟨hc.size, ?_⟩, hb, hc.block Bs hbs h.fbs⟩
  · intro q
    rcases hf _ (p2 _ q) with q | q
    · exact h.fb3 q
    · omega
  · intro q
    rcases hf _ (p2 _ q) with q | q
    · exact h.fbs q
    · omega
  · intro k ob hk hW ho
    refine (hc.block k (Array.getElem?_eq_some_iff.1 hW).1 (fun q => ?_)).trans hW
    rcases h.tight k q with rfl | rfl | ⟨ob', h4, h5⟩
    · have := h.ob; omega
    · have := h.vb; omega
    · rw [hW] at h4; cases h4; rw [ho] at h5; cases h5
end
end Go.Proofs.Ytafbjcnonhpldaa
