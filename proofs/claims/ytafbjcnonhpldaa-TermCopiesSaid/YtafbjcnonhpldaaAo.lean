/-
  goes at a nil pool. Conditions: those written in each statement.
-/
import Derived.Test.YtafbjcnonhpldaaAm
import Derived.RangeFuncNested
import Derived.RangeFuncBound
import Derived.RangeFuncCalls
import Derived.RangeFuncLeaves
import Derived.Shelf.Abstract
import Derived.Shelf.RegionOpen
import Derived.WalkKit
import Derived.OwnWalkIn
import Derived.TacticsInMore
import Derived.LoopNIn
import Derived.LoopIn
namespace Go.Proofs.Ytafbjcnonhpldaa
open Go.RowKit Go.Shelf
attribute [local go_sem] Oper.semAt_some
set_option linter.unusedVariables false
set_option linter.unusedSimpArgs false
theorem all_stops_nil (Bs : Nat) (w : World) (hB : Bs < w.heap.size) (hc : w.cell? ⟨Bs, 0, none⟩ = some (.pointer none)) (Kp : World → World → Prop) (n : Nat) :
    SeqStopsK Fence.wide n Try.prog 25 #[.pointer (some ⟨Bs, 0, none⟩)] (fun x : Empty => x.elim) Kp (fun xs => xs = []) (fun _ => False) 0 w := fun l J Jx W hW _ _ hY h0 =>
  (all1_nil n l Bs J W ((hW.cell (p := ⟨Bs, 0, none⟩) hB).trans hc) h0).mono fun e W' ⟨h1, h2⟩ => ⟨h1, .inl ⟨[], rfl, h2⟩⟩
set_option maxRecDepth 100000 in
set_option maxHeartbeats 1000000 in
theorem goes_nil (w : World) : Calls Try.prog 17 #[.pointer none, .slice none 0 0, .int .i64 0] w fun e w' => e = .returned (.bool true) ∧ Below w.heap.size w w' := by
  have hq : ∀ (b : Nat) (w : World), (binOp .eql 55 (.func (.func 25) #[] #[.pointer (some ⟨b, 0, none⟩)]) .nilFunc).run Try.prog w = .ok (.bool false) w := fun b w => by kernel_rfl
  refine (callsIn_wide (n := 3)).1 ?_
  refine callsIn_of_wp_marks Try.func17 rfl trivial ?_ rfl
  simp only [Try.ntmps17, List.size_toArray, List.length_cons, List.length_nil, Nat.reduceAdd, Nat.reduceSub, Array.replicate_succ, Array.replicate_zero, List.push_toArray, List.append_toArray, List.nil_append, List.cons_append]
  gi_wp2
  refine ⟨trivial, (callsIn_wide.2 (all_any none _)).mono ?_⟩
  rintro e w2 ⟨rfl, rfl⟩
  gi_wp2
  have b0 := ((((Boxed.new w 22 (.slice none 0 0)).alloc (.cells #[.int .i64 0] 3)).alloc (.cells #[.bool false] 4)).alloc (.cells #[.pointer none] 24)).alloc (.cells #[.int .i64 0] 3)
  have b1 := (((Boxed.new (w.alloc (.cells #[.slice none 0 0] 22)) 3 (.int .i64 0)).alloc (.cells #[.bool false] 4)).alloc (.cells #[.pointer none] 24)).alloc (.cells #[.int .i64 0] 3)
  have b2 := ((Boxed.new ((w.alloc (.cells #[.slice none 0 0] 22)).alloc (.cells #[.int .i64 0] 3)) 4 (.bool false)).alloc (.cells #[.pointer none] 24)).alloc (.cells #[.int .i64 0] 3)
  have b3 := (Boxed.new (((w.alloc (.cells #[.slice none 0 0] 22)).alloc (.cells #[.int .i64 0] 3)).alloc (.cells #[.bool false] 4)) 24 (.pointer none)).alloc (.cells #[.int .i64 0] 3)
  have b4 := Boxed.new ((((w.alloc (.cells #[.slice none 0 0] 22)).alloc (.cells #[.int .i64 0] 3)).alloc (.cells #[.bool false] 4)).alloc (.cells #[.pointer none] 24)) 3 (.int .i64 0)
  have hB0 : Below w.heap.size w (((((w.alloc (.cells #[.slice none 0 0] 22)).alloc (.cells #[.int .i64 0] 3)).alloc (.cells #[.bool false] 4)).alloc (.cells #[.pointer none] 24)).alloc (.cells #[.int .i64 0] 3)) :=
    (((((Below.refl _ w).alloc (Nat.le_refl _) _).alloc (by simp) _).alloc (by simp; omega) _).alloc (by simp; omega) _).alloc (by simp; omega) _
  simp only [World.size_alloc] at b0 b1 b2 b3 b4
  generalize hW0 : ((((w.alloc (.cells #[.slice none 0 0] 22)).alloc (.cells #[.int .i64 0] 3)).alloc (.cells #[.bool false] 4)).alloc (.cells #[.pointer none] 24)).alloc (.cells #[.int .i64 0] 3) = W0 at b0 b1 b2 b3 b4 hB0 ⊢
  have hsz : W0.heap.size = w.heap.size + 5 := by rw [← hW0]; simp
  clear hW0
  refine wpIn_rangeFunc_ownF (F := Fence.wide) (n := 3) (α := Empty) rfl (by omega) (gf := 25) (lb := #[.pointer (some ⟨w.heap.size + 1 + 1 + 1, 0, none⟩)]) rfl trivial (enters_of Try.func25 (by kernel_rfl) rfl)
    (all_stops_nil _ W0 (by omega) b3.cell (Below w.heap.size) _) (belowK_t (n₀ := w.heap.size)) (belowK_b (by omega)) (Below.refl _ _) (fun x => x.elim)
    (fun _ W => (((Boxed W w.heap.size 22 (.slice none 0 0) ∧ Boxed W (w.heap.size + 1) 3 (.int .i64 0)) ∧ Boxed W (w.heap.size + 1 + 1) 4 (.bool false)) ∧ Boxed W (w.heap.size + 1 + 1 + 1 + 1) 3 (.int .i64 0)) ∧ Below w.heap.size w W) (fun _ _ _ => False)
    (OwnFrom.and (OwnFrom.and (OwnFrom.and (OwnFrom.and (Own.from (boxed_own _ _ _) _) (Own.from (boxed_own _ _ _) _)) (Own.from (boxed_own _ _ _) _)) (Own.from (boxed_own _ _ _) _)) (ownFrom_below (Nat.le_refl _) (by omega)))
    (fun _ _ _ _ _ hs _ _ => hs) ⟨⟨⟨⟨b0, b1⟩, b2⟩, b4⟩, hB0⟩ (fun x => x.elim) ?assign ?body ?done ?stop
  case assign => intro l x; exact x.elim
  case body => intro l pre x; exact x.elim
  case stop => rintro D c pre W hD h; exact h.elim
  case done =>
    rintro D xs W hD hS ⟨⟨⟨⟨c0, c1⟩, c2⟩, c4⟩, hB⟩ hK
    have h0 := c0.cell
    have h1 := c1.cell
    have h2 := c2.cell
    have h4 := c4.cell
    have f2 := c2.frozen
    clear b0 b1 b2 b3 b4 c0 c1 c2 c4
    gi_wp2
    have hK2 := (KeepsOthers.setCell W ⟨w.heap.size + 1 + 1, 0, none⟩ (.bool true)).same D _ hK rfl
    have h2' : (W.setCell ⟨w.heap.size + 1 + 1, 0, none⟩ (.bool true)).cell? ⟨w.heap.size + 1 + 1, 0, none⟩ = some (.bool true) := World.cell?_setCell_same' _ _ _ (by rw [h2]; rfl)
    have hB2 : Below w.heap.size w (W.setCell ⟨w.heap.size + 1 + 1, 0, none⟩ (.bool true)) := hB.setCell (p := ⟨w.heap.size + 1 + 1, 0, none⟩) (by simp; omega) _
    generalize W.setCell ⟨w.heap.size + 1 + 1, 0, none⟩ (.bool true) = W2 at hK2 h2' hB2 ⊢
    have hr := cell_kept h2' (grownBy_putObj' W2 D (.deferred none)) (fun r e => by cases e; exact ⟨_, hK2, rfl⟩)
    have hB3 := hB2.trans (belowK_b (w := W0) (n₀ := w.heap.size) (by omega) W2 D _ (.deferred none) hD hK2 rfl rfl)
    refine ⟨by simp, .inl ⟨_, _, rfl, run_takeDeferred hK2, ?_⟩⟩
    exact ⟨_, by simp [results, Try.results17, Act.put, asAddr, Result.andThen, run_loadVar_one _ _ _ _ Try.underlying4 rfl hr], rfl, hB3⟩
end Go.Proofs.Ytafbjcnonhpldaa
