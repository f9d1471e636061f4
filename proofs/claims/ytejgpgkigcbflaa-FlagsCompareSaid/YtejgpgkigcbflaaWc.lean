/-
  Contracts of the table of conditions, of May and Holds. Conditions: those written in each statement.
-/
import Derived.Test.YtejgpgkigcbflaaWb
namespace Go.Proofs.Ytejgpgkigcbflaa
open Go.RowKit
/-- What the table's functions captured, in the world behind the call. -/
structure Tab (w : World) (b1 b2 b3 b4 b5 b6 b7 b8 b9 b10 b11 b12 b13 : Nat) : Prop where
  cb1 : w.cell? ⟨b1, 0, none⟩ = some (.func (Fn.func 36) #[] #[])
  cb2 : w.cell? ⟨b2, 0, none⟩ = some (.func (Fn.func 37) #[] #[])
  cb3 : w.cell? ⟨b3, 0, none⟩ = some (.func (Fn.func 36) #[] #[])
  cb4 : w.cell? ⟨b4, 0, none⟩ = some (.func (Fn.func 37) #[] #[])
  cb5 : w.cell? ⟨b5, 0, none⟩ = some (.func (Fn.func 40) #[] #[.pointer (some ⟨b10, 0, none⟩), .pointer (some ⟨b11, 0, none⟩)])
  cb10 : w.cell? ⟨b10, 0, none⟩ = some (.func (Fn.func 36) #[] #[])
  cb11 : w.cell? ⟨b11, 0, none⟩ = some (.func (Fn.func 37) #[] #[])
  cb6 : w.cell? ⟨b6, 0, none⟩ = some (.func (Fn.func 38) #[] #[])
  cb7 : w.cell? ⟨b7, 0, none⟩ = some (.func (Fn.func 37) #[] #[])
  cb8 : w.cell? ⟨b8, 0, none⟩ = some (.func (Fn.func 38) #[] #[])
  cb9 : w.cell? ⟨b9, 0, none⟩ = some (.func (Fn.func 40) #[] #[.pointer (some ⟨b12, 0, none⟩), .pointer (some ⟨b13, 0, none⟩)])
  cb12 : w.cell? ⟨b12, 0, none⟩ = some (.func (Fn.func 37) #[] #[])
  cb13 : w.cell? ⟨b13, 0, none⟩ = some (.func (Fn.func 38) #[] #[])
  lb1 : b1 < w.heap.size
  lb2 : b2 < w.heap.size
  lb3 : b3 < w.heap.size
  lb4 : b4 < w.heap.size
  lb5 : b5 < w.heap.size
  lb6 : b6 < w.heap.size
  lb7 : b7 < w.heap.size
  lb8 : b8 < w.heap.size
  lb9 : b9 < w.heap.size
  lb10 : b10 < w.heap.size
  lb11 : b11 < w.heap.size
  lb12 : b12 < w.heap.size
  lb13 : b13 < w.heap.size
theorem Tab.keep {w w' : World} {b1 b2 b3 b4 b5 b6 b7 b8 b9 b10 b11 b12 b13 : Nat} (h : Tab w b1 b2 b3 b4 b5 b6 b7 b8 b9 b10 b11 b12 b13) (hb : Below w.heap.size w w') : Tab w' b1 b2 b3 b4 b5 b6 b7 b8 b9 b10 b11 b12 b13 :=
  ⟨(hb.cell (p := ⟨b1, 0, none⟩) h.lb1).trans h.cb1, (hb.cell (p := ⟨b2, 0, none⟩) h.lb2).trans h.cb2, (hb.cell (p := ⟨b3, 0, none⟩) h.lb3).trans h.cb3, (hb.cell (p := ⟨b4, 0, none⟩) h.lb4).trans h.cb4, (hb.cell (p := ⟨b5, 0, none⟩) h.lb5).trans h.cb5, (hb.cell (p := ⟨b10, 0, none⟩) h.lb10).trans h.cb10, (hb.cell (p := ⟨b11, 0, none⟩) h.lb11).trans h.cb11, (hb.cell (p := ⟨b6, 0, none⟩) h.lb6).trans h.cb6, (hb.cell (p := ⟨b7, 0, none⟩) h.lb7).trans h.cb7, (hb.cell (p := ⟨b8, 0, none⟩) h.lb8).trans h.cb8, (hb.cell (p := ⟨b9, 0, none⟩) h.lb9).trans h.cb9, (hb.cell (p := ⟨b12, 0, none⟩) h.lb12).trans h.cb12, (hb.cell (p := ⟨b13, 0, none⟩) h.lb13).trans h.cb13, Nat.lt_of_lt_of_le h.lb1 hb.size, Nat.lt_of_lt_of_le h.lb2 hb.size, Nat.lt_of_lt_of_le h.lb3 hb.size, Nat.lt_of_lt_of_le h.lb4 hb.size, Nat.lt_of_lt_of_le h.lb5 hb.size, Nat.lt_of_lt_of_le h.lb6 hb.size, Nat.lt_of_lt_of_le h.lb7 hb.size, Nat.lt_of_lt_of_le h.lb8 hb.size, Nat.lt_of_lt_of_le h.lb9 hb.size, Nat.lt_of_lt_of_le h.lb10 hb.size, Nat.lt_of_lt_of_le h.lb11 hb.size, Nat.lt_of_lt_of_le h.lb12 hb.size, Nat.lt_of_lt_of_le h.lb13 hb.size⟩
set_option maxHeartbeats 2000000 in
set_option maxRecDepth 100000 in
theorem table_any (w : World) :
    Calls Try.prog 29 #[] w fun e w' => ∃ b1 b2 b3 b4 b5 b6 b7 b8 b9 b10 b11 b12 b13, e = .returned (.agg #[.nilFunc, .nilFunc, (.func (Fn.func 36) #[] #[]), (.func (Fn.func 42) #[] #[.pointer (some ⟨b1, 0, none⟩)]), (.func (Fn.func 37) #[] #[]), (.func (Fn.func 42) #[] #[.pointer (some ⟨b2, 0, none⟩)]), (.func (Fn.func 40) #[] #[.pointer (some ⟨b3, 0, none⟩), .pointer (some ⟨b4, 0, none⟩)]), (.func (Fn.func 42) #[] #[.pointer (some ⟨b5, 0, none⟩)]), .nilFunc, .nilFunc, .nilFunc, .nilFunc, (.func (Fn.func 38) #[] #[]), (.func (Fn.func 42) #[] #[.pointer (some ⟨b6, 0, none⟩)]), (.func (Fn.func 40) #[] #[.pointer (some ⟨b7, 0, none⟩), .pointer (some ⟨b8, 0, none⟩)]), (.func (Fn.func 42) #[] #[.pointer (some ⟨b9, 0, none⟩)])]) ∧ Tab w' b1 b2 b3 b4 b5 b6 b7 b8 b9 b10 b11 b12 b13 ∧ Below w.heap.size w w' := by
  go_enter Try.func29, Try.ntmps29
  go_wp2
  refine bodyPost_ret (v := .agg #[.nilFunc, .nilFunc, (.func (Fn.func 36) #[] #[]), (.func (Fn.func 42) #[] #[.pointer (some ⟨w.heap.size + 1, 0, none⟩)]), (.func (Fn.func 37) #[] #[]), (.func (Fn.func 42) #[] #[.pointer (some ⟨w.heap.size + 1 + 1, 0, none⟩)]), (.func (Fn.func 40) #[] #[.pointer (some ⟨w.heap.size + 1 + 1 + 1, 0, none⟩), .pointer (some ⟨w.heap.size + 1 + 1 + 1 + 1, 0, none⟩)]), (.func (Fn.func 42) #[] #[.pointer (some ⟨w.heap.size + 1 + 1 + 1 + 1 + 1 + 1 + 1, 0, none⟩)]), .nilFunc, .nilFunc, .nilFunc, .nilFunc, (.func (Fn.func 38) #[] #[]), (.func (Fn.func 42) #[] #[.pointer (some ⟨w.heap.size + 1 + 1 + 1 + 1 + 1 + 1 + 1 + 1, 0, none⟩)]), (.func (Fn.func 40) #[] #[.pointer (some ⟨w.heap.size + 1 + 1 + 1 + 1 + 1 + 1 + 1 + 1 + 1, 0, none⟩), .pointer (some ⟨w.heap.size + 1 + 1 + 1 + 1 + 1 + 1 + 1 + 1 + 1 + 1, 0, none⟩)]), (.func (Fn.func 42) #[] #[.pointer (some ⟨w.heap.size + 1 + 1 + 1 + 1 + 1 + 1 + 1 + 1 + 1 + 1 + 1 + 1 + 1, 0, none⟩)])]) (by simp [results, Try.results29, go_sem]) rfl ?_
  refine ⟨w.heap.size + 1, w.heap.size + 1 + 1, w.heap.size + 1 + 1 + 1, w.heap.size + 1 + 1 + 1 + 1, w.heap.size + 1 + 1 + 1 + 1 + 1 + 1 + 1, w.heap.size + 1 + 1 + 1 + 1 + 1 + 1 + 1 + 1, w.heap.size + 1 + 1 + 1 + 1 + 1 + 1 + 1 + 1 + 1, w.heap.size + 1 + 1 + 1 + 1 + 1 + 1 + 1 + 1 + 1 + 1, w.heap.size + 1 + 1 + 1 + 1 + 1 + 1 + 1 + 1 + 1 + 1 + 1 + 1 + 1, w.heap.size + 1 + 1 + 1 + 1 + 1, w.heap.size + 1 + 1 + 1 + 1 + 1 + 1, w.heap.size + 1 + 1 + 1 + 1 + 1 + 1 + 1 + 1 + 1 + 1 + 1, w.heap.size + 1 + 1 + 1 + 1 + 1 + 1 + 1 + 1 + 1 + 1 + 1 + 1, rfl, ?_, ?_⟩
  · constructor
    all_goals simp [go_sem]
  · exact (((((((((((((((Below.refl _ _).alloc (Nat.le_refl _) _).alloc (le_alloc _ (Nat.le_refl _)) _).alloc (le_alloc _ (le_alloc _ (Nat.le_refl _))) _).alloc (le_alloc _ (le_alloc _ (le_alloc _ (Nat.le_refl _)))) _).alloc (le_alloc _ (le_alloc _ (le_alloc _ (le_alloc _ (Nat.le_refl _))))) _).alloc (le_alloc _ (le_alloc _ (le_alloc _ (le_alloc _ (le_alloc _ (Nat.le_refl _)))))) _).alloc (le_alloc _ (le_alloc _ (le_alloc _ (le_alloc _ (le_alloc _ (le_alloc _ (Nat.le_refl _))))))) _).alloc (le_alloc _ (le_alloc _ (le_alloc _ (le_alloc _ (le_alloc _ (le_alloc _ (le_alloc _ (Nat.le_refl _)))))))) _).alloc (le_alloc _ (le_alloc _ (le_alloc _ (le_alloc _ (le_alloc _ (le_alloc _ (le_alloc _ (le_alloc _ (Nat.le_refl _))))))))) _).alloc (le_alloc _ (le_alloc _ (le_alloc _ (le_alloc _ (le_alloc _ (le_alloc _ (le_alloc _ (le_alloc _ (le_alloc _ (Nat.le_refl _)))))))))) _).alloc (le_alloc _ (le_alloc _ (le_alloc _ (le_alloc _ (le_alloc _ (le_alloc _ (le_alloc _ (le_alloc _ (le_alloc _ (le_alloc _ (Nat.le_refl _))))))))))) _).alloc (le_alloc _ (le_alloc _ (le_alloc _ (le_alloc _ (le_alloc _ (le_alloc _ (le_alloc _ (le_alloc _ (le_alloc _ (le_alloc _ (le_alloc _ (Nat.le_refl _)))))))))))) _).alloc (le_alloc _ (le_alloc _ (le_alloc _ (le_alloc _ (le_alloc _ (le_alloc _ (le_alloc _ (le_alloc _ (le_alloc _ (le_alloc _ (le_alloc _ (le_alloc _ (Nat.le_refl _))))))))))))) _).alloc (le_alloc _ (le_alloc _ (le_alloc _ (le_alloc _ (le_alloc _ (le_alloc _ (le_alloc _ (le_alloc _ (le_alloc _ (le_alloc _ (le_alloc _ (le_alloc _ (le_alloc _ (Nat.le_refl _)))))))))))))) _)
end Go.Proofs.Ytejgpgkigcbflaa
