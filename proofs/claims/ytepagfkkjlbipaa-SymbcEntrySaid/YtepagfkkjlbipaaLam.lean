/-
  The start made again; what lies on while a pool goes on. Conditions: those written in each statement.
  Two pools side by side: what lies on while one of them goes on. Conditions: those written in each statement.
  What symbc.Run answers: its length, its numbers, the cells that it lies in. Conditions: those written in each statement.
-/
import Derived.Test.YtepagfkkjlbipaaLal
import Derived.Test.YtepagfkkjlbipaaEl
section
namespace Go.Proofs.Ytepagfkkjlbipaa
open Go.RowKit
set_option linter.unusedVariables false
set_option linter.unusedSimpArgs false
set_option maxRecDepth 100000
section
variable {w w' : World} {base g : Nat} {F F' G : Nat → Prop} {p : PS} {s : Value} {l : List EvD}
theorem EvsAt.pg (h : EvsAt w F s l) (k : PG base g F w F' p w') : EvsAt w' F' s l := h.chg k.chg (fun b q => .inl q) (fun b q => k.new b q)
theorem EvsAt.step (h : EvsAt w F s l) (hb : Below w.heap.size w w') : EvsAt w' F s l := h.chg (Chg.of_below hb) (fun k q => .inr q) (fun k q => .inl q)
theorem EvsAt.less (h : EvsAt w G s l) (hG : ∀ b, F b → G b) : EvsAt w F s l := h.chg (H := fun _ => False) (Chg.refl _ w) (fun _ q => q.elim) (fun b q => .inl (hG b q))
end
end Go.Proofs.Ytepagfkkjlbipaa
end
section
namespace Go.Proofs.Ytepagfkkjlbipaa
open Go.RowKit
set_option linter.unusedVariables false
set_option linter.unusedSimpArgs false
structure Two (B1 g1 : Nat) (F1 : Nat → Prop) (p1 : PS) (B2 g2 : Nat) (F2 : Nat → Prop) (p2 : PS) (W : World) : Prop where
  a : PoolAt W B1 F1 g1 p1
  b : PoolAt W B2 F2 g2 p2
  ap : ∀ k, F1 k → ¬ F2 k
  h1 : B1 ≤ W.heap.size
  h2 : B2 ≤ W.heap.size
def bothF (F1 F2 : Nat → Prop) : Nat → Prop := fun k => F1 k ∨ F2 k
structure Go2 (G : Nat → Prop) (W : World) (G' : Nat → Prop) (W' : World) : Prop where
  chg : Chg G W W'
  new : ∀ b, G' b → G b ∨ W.heap.size ≤ b
section
variable {B1 g1 B2 g2 : Nat} {F1 F2 F' G G' : Nat → Prop} {p1 p2 p' : PS} {W W' : World}
theorem Two.lt1 (h : Two B1 g1 F1 p1 B2 g2 F2 p2 W) {k : Nat} (hk : bothF F1 F2 k) : k < W.heap.size := hk.elim (fun q => (h.a.fb k q).2) (fun q => (h.b.fb k q).2)
theorem Two.left (h : Two B1 g1 F1 p1 B2 g2 F2 p2 W) (k : PG B1 g1 F1 W F' p' W') : Two B1 g1 F' p' B2 g2 F2 p2 W' ∧ Go2 (bothF F1 F2) W (bothF F' F2) W' :=
  ⟨⟨k.pool, h.b.chg k.chg (fun b q r => h.ap b r q), fun b q r => (k.new b q).elim (fun s => h.ap b s r) (fun e => by have := (h.b.fb b r).2; omega), Nat.le_trans h.h1 k.chg.size, Nat.le_trans h.h2 k.chg.size⟩,
   k.chg.mono (fun b q => .inl (.inl q)), fun b q => q.elim (fun s => (k.new b s).elim (fun t => .inl (.inl t)) .inr) (fun s => .inl (.inr s))⟩
theorem Two.right (h : Two B1 g1 F1 p1 B2 g2 F2 p2 W) (k : PG B2 g2 F2 W F' p' W') : Two B1 g1 F1 p1 B2 g2 F' p' W' ∧ Go2 (bothF F1 F2) W (bothF F1 F') W' :=
  ⟨⟨h.a.chg k.chg (fun b q r => h.ap b q r), k.pool, fun b q r => (k.new b r).elim (fun s => h.ap b q s) (fun e => by have := (h.a.fb b q).2; omega), Nat.le_trans h.h1 k.chg.size, Nat.le_trans h.h2 k.chg.size⟩,
   k.chg.mono (fun b q => .inl (.inr q)), fun b q => q.elim (fun s => .inl (.inl s)) (fun s => (k.new b s).elim (fun t => .inl (.inr t)) .inr)⟩
theorem Two.step (h : Two B1 g1 F1 p1 B2 g2 F2 p2 W) (hb : Below W.heap.size W W') : Two B1 g1 F1 p1 B2 g2 F2 p2 W' := ⟨h.a.below hb, h.b.below hb, h.ap, Nat.le_trans h.h1 hb.size, Nat.le_trans h.h2 hb.size⟩
theorem Two.far (h : Two B1 g1 F1 p1 B2 g2 F2 p2 W) {H : Nat → Prop} (hc : Chg H W W') (hH : ∀ k, bothF F1 F2 k → ¬ H k) : Two B1 g1 F1 p1 B2 g2 F2 p2 W' := ⟨h.a.chg hc (fun b q => hH b (.inl q)), h.b.chg hc (fun b q => hH b (.inr q)), h.ap, Nat.le_trans h.h1 hc.size, Nat.le_trans h.h2 hc.size⟩
theorem Go2.below (hb : Below W.heap.size W W') : Go2 G W G W' := ⟨Chg.of_below hb, fun b q => .inl q⟩
theorem Go2.refl (G : Nat → Prop) (W : World) : Go2 G W G W := ⟨Chg.refl _ _, fun b q => .inl q⟩
theorem Go2.trans {W2 : World} {G2 : Nat → Prop} (h : Go2 G W G' W') (k : Go2 G' W' G2 W2) : Go2 G W G2 W2 := ⟨h.chg.trans k.chg h.new, fun b q => (k.new b q).elim (h.new b) (fun e => .inr (Nat.le_trans h.chg.size e))⟩
theorem Go2.ins {A : Option Addr} {n : Nat} {l : List ID} (k : Go2 G W G' W') (h : InsF W G A n l) : InsF W' G' A n l := h.chg k.chg (fun b q => .inl q) k.new
theorem Go2.rd {A : Option Addr} {n size : Nat} {xs : List Value} (k : Go2 G W G' W') (h : ReadsF W G size A n xs) : ReadsF W' G' size A n xs := h.chg k.chg (fun b q => .inl q) k.new
theorem Go2.evs {s : Value} {l : List EvD} (k : Go2 G W G' W') (h : EvsAt W G s l) : EvsAt W' G' s l := h.chg k.chg (fun b q => .inl q) k.new
theorem Go2.blk {b : Nat} {t : TypeId} {cs : Array Value} (k : Go2 G W G' W') (h : Blk W b t cs ∧ ¬ G b) : Blk W' b t cs ∧ ¬ G' b := ⟨k.chg.blk h.1 h.2, fun q => (k.new b q).elim h.2 (fun e => by have := h.1.lt; omega)⟩
end
end Go.Proofs.Ytepagfkkjlbipaa
end
section
namespace Go.Proofs.Ytepagfkkjlbipaa
open Go.RowKit
set_option linter.unusedVariables false
set_option linter.unusedSimpArgs false
set_option maxRecDepth 100000
theorem run_regs (p : PS) (c : Int) (l : List ID) (block : Int) {regs : List Int} {k : Nat} (h : MI (SM.mk p regs [] 0) (k + 1950) 1) : (runV p c l block regs).regs.length = 11 := by
  by_cases hc : (chkP c l).2 = 0
  · cases ha : askB p l block regs
    · rw [run_arg hc ha]; rfl
    · obtain ⟨m, q, R⟩ := run_fits h hc ha
      rw [R.run]
      show q.1.regs.length = 11
      rw [R.rgs]
      exact R.mi.len
  · rw [run_bad hc]; rfl
theorem run_pool (p : PS) (c : Int) (l : List ID) (block : Int) {regs : List Int} {k : Nat} (h : MI (SM.mk p regs [] 0) (k + 1950) 1) : Ext p (runV p c l block regs).p ∧ (runV p c l block regs).evs.length ≤ 64 := by
  by_cases hc : (chkP c l).2 = 0
  · cases ha : askB p l block regs
    · rw [run_arg hc ha]; exact ⟨Ext.refl p, by simp⟩
    · obtain ⟨m, q, R⟩ := run_fits h hc ha
      rw [R.run]
      refine ⟨R.ext.trans R.exq, ?_⟩
      show q.1.evs.length ≤ 64
      rw [R.evs, ← R.eqm]
      have h1 := go_evs (SM.mk p regs [] 0) (insOf l (blkAt l block))
      have h2 := (ins_may hc (x := blkAt l block)).2
      have h3 : (SM.mk p regs [] 0).evs.length = 0 := rfl
      unfold goV
      omega
  · rw [run_bad hc]; exact ⟨Ext.refl p, by simp⟩
/-- An event of each, as they lie. -/
def TF (b8 b13 : Nat) (e1 e2 : Value) (a1 a2 : Addr) (x : EvD) (v1 v2 : Value) (w : World) : Prop := w.cell? ⟨b8, 11, none⟩ = some e1 ∧ w.cell? ⟨b13, 11, none⟩ = some e2 ∧ (∀ j u, (evC (x, v1))[j]? = some u → w.cell? (a1.add j) = some u) ∧ (∀ j u, (evC (x, v2))[j]? = some u → w.cell? (a2.add j) = some u) ∧ NxAt w w.heap.size v1 x.args ∧ NxAt w w.heap.size v2 x.args ∧ b8 < w.heap.size ∧ b13 < w.heap.size ∧ a1.block < w.heap.size ∧ a2.block < w.heap.size
theorem TF.step {b8 b13 : Nat} {e1 e2 : Value} {a1 a2 : Addr} {x : EvD} {v1 v2 : Value} {w w' : World} (h : TF b8 b13 e1 e2 a1 a2 x v1 v2 w) (hb : Below w.heap.size w w') : TF b8 b13 e1 e2 a1 a2 x v1 v2 w' := by
  obtain ⟨h1, h2, h3, h4, h5, h6, h7, h8, h9, h10⟩ := h
  have hz := hb.size
  have hw : ∀ {v l}, NxAt w w.heap.size v l → NxAt w' w'.heap.size v l := fun q => (q.below hb).more hz
  exact ⟨(hb.cell (by exact h7)).trans h1, (hb.cell (by exact h8)).trans h2, fun j u hu => (hb.cell (by rw [block_of_add]; exact h9)).trans (h3 j u hu), fun j u hu => (hb.cell (by rw [block_of_add]; exact h10)).trans (h4 j u hu), hw h5, hw h6, by omega, by omega, by omega, by omega⟩
end Go.Proofs.Ytepagfkkjlbipaa
end
