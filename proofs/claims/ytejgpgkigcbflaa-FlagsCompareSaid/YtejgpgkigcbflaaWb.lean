/-
  Contracts of the conditions' functions and of their table. Conditions: those written in each statement.
-/
import Derived.Test.YtejgpgkigcbflaaWa
import Derived.Laws.EntriesVeiled
import Derived.Deep.RegionWith
namespace Go.Proofs.Ytejgpgkigcbflaa
open Go.RowKit
def Fn0 (f : Nat) : Value := .func (Fn.func f) #[] #[]
def flagsV (k c z s o : Bool) : Value := .agg #[.bool k, .bool c, .bool z, .bool s, .bool o]
set_option maxHeartbeats 400000 in
theorem cl_c (k c z s o : Bool) (w : World) : Calls Try.prog 36 #[.agg #[.bool k, .bool c, .bool z, .bool s, .bool o]] w fun e w' => e = .returned (.bool c) ∧ Below w.heap.size w w' := by
  go_enter Try.func36, Try.ntmps36
  go_wp2
  go_ret
  exact ⟨by first | rfl | simp, by first | exact (Below.refl _ _).alloc (Nat.le_refl _) _ | exact below_drewN ((Below.refl _ _).alloc (Nat.le_refl _) _) _ | exact ((Below.refl _ _).alloc (Nat.le_refl _) _).drew⟩
set_option maxHeartbeats 400000 in
theorem cl_z (k c z s o : Bool) (w : World) : Calls Try.prog 37 #[.agg #[.bool k, .bool c, .bool z, .bool s, .bool o]] w fun e w' => e = .returned (.bool z) ∧ Below w.heap.size w w' := by
  go_enter Try.func37, Try.ntmps37
  go_wp2
  go_ret
  exact ⟨by first | rfl | simp, by first | exact (Below.refl _ _).alloc (Nat.le_refl _) _ | exact below_drewN ((Below.refl _ _).alloc (Nat.le_refl _) _) _ | exact ((Below.refl _ _).alloc (Nat.le_refl _) _).drew⟩
set_option maxHeartbeats 400000 in
theorem cl_so (k c z s o : Bool) (w : World) : Calls Try.prog 38 #[.agg #[.bool k, .bool c, .bool z, .bool s, .bool o]] w fun e w' => e = .returned (.bool (s != o)) ∧ Below w.heap.size w w' := by
  go_enter Try.func38, Try.ntmps38
  go_wp2
  go_ret
  exact ⟨by first | rfl | simp, by first | exact (Below.refl _ _).alloc (Nat.le_refl _) _ | exact below_drewN ((Below.refl _ _).alloc (Nat.le_refl _) _) _ | exact ((Below.refl _ _).alloc (Nat.le_refl _) _).drew⟩
theorem below_two {w w1 w2 : World} {B : Nat} (h : Below B w w1) (h2 : Below w1.heap.size w1 w2) (hs : B ≤ w1.heap.size) : Below B w w2 := h.trans (h2.mono hs)
theorem al_lt {w : World} {b : Nat} (h : b < w.heap.size) (o : Obj) : b < (w.alloc o).heap.size := by simp; omega
set_option maxHeartbeats 1000000 in
theorem cl_or1 (k c z s o : Bool) (a b : Nat) (w : World) (ha : w.cell? ⟨a, 0, none⟩ = some (.func (Fn.func 36) #[] #[])) (hb : w.cell? ⟨b, 0, none⟩ = some (.func (Fn.func 37) #[] #[])) (hla : a < w.heap.size) (hlb : b < w.heap.size) :
    Calls Try.prog 40 #[.agg #[.bool k, .bool c, .bool z, .bool s, .bool o], .pointer (some ⟨a, 0, none⟩), .pointer (some ⟨b, 0, none⟩)] w fun e w' => e = .returned (.bool (c || z)) ∧ Below w.heap.size w w' := by
  have H0 := (Below.refl w.heap.size w).alloc (Nat.le_refl _) (.cells #[.bool k, .bool c, .bool z, .bool s, .bool o] 25)
  cases c
  · go_enter Try.func40, Try.ntmps40
    go_wp2_with fail
    refine (cl_c _ _ _ _ _ _).mono ?_
    rintro e w1 ⟨rfl, hb1⟩
    have H1 := below_two H0 hb1 (le_alloc _ (Nat.le_refl _))
    have hbc : w1.cell? ⟨b, 0, none⟩ = some (.func (Fn.func 37) #[] #[]) := by rw [H1.cell (p := ⟨b, 0, none⟩) hlb]; exact hb
    have B1 : Blk w1 w.heap.size 25 _ := (Blk.new w _ _).below hb1 (by simp)
    have q0 := B1.cell 0
    have q1 := B1.cell 1
    have q2 := B1.cell 2
    have q3 := B1.cell 3
    have q4 := B1.cell 4
    simp at q0 q1 q2 q3 q4
    clear B1
    go_wp2_with fail
    refine (cl_z _ _ _ _ _ _).mono ?_
    rintro e w2 ⟨rfl, hb2⟩
    go_wp2
    go_ret
    exact ⟨by simp, H1.trans (hb2.mono H1.size)⟩
  · go_enter Try.func40, Try.ntmps40
    go_wp2_with fail
    refine (cl_c _ _ _ _ _ _).mono ?_
    rintro e w1 ⟨rfl, hb1⟩
    have H1 := below_two H0 hb1 (le_alloc _ (Nat.le_refl _))
    go_wp2
    go_ret
    exact ⟨by simp, H1⟩
set_option maxHeartbeats 1000000 in
theorem cl_or2 (k c z s o : Bool) (a b : Nat) (w : World) (ha : w.cell? ⟨a, 0, none⟩ = some (.func (Fn.func 37) #[] #[])) (hb : w.cell? ⟨b, 0, none⟩ = some (.func (Fn.func 38) #[] #[])) (hla : a < w.heap.size) (hlb : b < w.heap.size) :
    Calls Try.prog 40 #[.agg #[.bool k, .bool c, .bool z, .bool s, .bool o], .pointer (some ⟨a, 0, none⟩), .pointer (some ⟨b, 0, none⟩)] w fun e w' => e = .returned (.bool (z || (s != o))) ∧ Below w.heap.size w w' := by
  have H0 := (Below.refl w.heap.size w).alloc (Nat.le_refl _) (.cells #[.bool k, .bool c, .bool z, .bool s, .bool o] 25)
  cases z
  · go_enter Try.func40, Try.ntmps40
    go_wp2_with fail
    refine (cl_z _ _ _ _ _ _).mono ?_
    rintro e w1 ⟨rfl, hb1⟩
    have H1 := below_two H0 hb1 (le_alloc _ (Nat.le_refl _))
    have hbc : w1.cell? ⟨b, 0, none⟩ = some (.func (Fn.func 38) #[] #[]) := by rw [H1.cell (p := ⟨b, 0, none⟩) hlb]; exact hb
    have B1 : Blk w1 w.heap.size 25 _ := (Blk.new w _ _).below hb1 (by simp)
    have q0 := B1.cell 0
    have q1 := B1.cell 1
    have q2 := B1.cell 2
    have q3 := B1.cell 3
    have q4 := B1.cell 4
    simp at q0 q1 q2 q3 q4
    clear B1
    go_wp2_with fail
    refine (cl_so _ _ _ _ _ _).mono ?_
    rintro e w2 ⟨rfl, hb2⟩
    go_wp2
    go_ret
    exact ⟨by simp, H1.trans (hb2.mono H1.size)⟩
  · go_enter Try.func40, Try.ntmps40
    go_wp2_with fail
    refine (cl_z _ _ _ _ _ _).mono ?_
    rintro e w1 ⟨rfl, hb1⟩
    have H1 := below_two H0 hb1 (le_alloc _ (Nat.le_refl _))
    go_wp2
    go_ret
    exact ⟨by simp, H1⟩
set_option maxHeartbeats 1000000 in
theorem cl_n1 (k c z s o : Bool) (a : Nat) (w : World) (ha : w.cell? ⟨a, 0, none⟩ = some (.func (Fn.func 36) #[] #[])) (hla : a < w.heap.size) :
    Calls Try.prog 42 #[.agg #[.bool k, .bool c, .bool z, .bool s, .bool o], .pointer (some ⟨a, 0, none⟩)] w fun e w' => e = .returned (.bool (!c)) ∧ Below w.heap.size w w' := by
  have H0 := (Below.refl w.heap.size w).alloc (Nat.le_refl _) (.cells #[.bool k, .bool c, .bool z, .bool s, .bool o] 25)
  go_enter Try.func42, Try.ntmps42
  go_wp2_with fail
  refine (cl_c _ _ _ _ _ _).mono ?_
  rintro e w1 ⟨rfl, hb1⟩
  have H1 := below_two H0 hb1 (le_alloc _ (Nat.le_refl _))
  go_wp2
  go_ret
  exact ⟨by first | rfl | simp, H1⟩
set_option maxHeartbeats 1000000 in
theorem cl_n2 (k c z s o : Bool) (a : Nat) (w : World) (ha : w.cell? ⟨a, 0, none⟩ = some (.func (Fn.func 37) #[] #[])) (hla : a < w.heap.size) :
    Calls Try.prog 42 #[.agg #[.bool k, .bool c, .bool z, .bool s, .bool o], .pointer (some ⟨a, 0, none⟩)] w fun e w' => e = .returned (.bool (!z)) ∧ Below w.heap.size w w' := by
  have H0 := (Below.refl w.heap.size w).alloc (Nat.le_refl _) (.cells #[.bool k, .bool c, .bool z, .bool s, .bool o] 25)
  go_enter Try.func42, Try.ntmps42
  go_wp2_with fail
  refine (cl_z _ _ _ _ _ _).mono ?_
  rintro e w1 ⟨rfl, hb1⟩
  have H1 := below_two H0 hb1 (le_alloc _ (Nat.le_refl _))
  go_wp2
  go_ret
  exact ⟨by first | rfl | simp, H1⟩
set_option maxHeartbeats 1000000 in
theorem cl_n3 (k c z s o : Bool) (a : Nat) (w : World) (ha : w.cell? ⟨a, 0, none⟩ = some (.func (Fn.func 38) #[] #[])) (hla : a < w.heap.size) :
    Calls Try.prog 42 #[.agg #[.bool k, .bool c, .bool z, .bool s, .bool o], .pointer (some ⟨a, 0, none⟩)] w fun e w' => e = .returned (.bool (!(s != o))) ∧ Below w.heap.size w w' := by
  have H0 := (Below.refl w.heap.size w).alloc (Nat.le_refl _) (.cells #[.bool k, .bool c, .bool z, .bool s, .bool o] 25)
  go_enter Try.func42, Try.ntmps42
  go_wp2_with fail
  refine (cl_so _ _ _ _ _ _).mono ?_
  rintro e w1 ⟨rfl, hb1⟩
  have H1 := below_two H0 hb1 (le_alloc _ (Nat.le_refl _))
  go_wp2
  go_ret
  exact ⟨by first | rfl | simp, H1⟩
set_option maxHeartbeats 1000000 in
theorem cl_no1 (k c z s o : Bool) (d a b : Nat) (w : World) (hd : w.cell? ⟨d, 0, none⟩ = some (.func (Fn.func 40) #[] #[.pointer (some ⟨a, 0, none⟩), .pointer (some ⟨b, 0, none⟩)])) (ha : w.cell? ⟨a, 0, none⟩ = some (.func (Fn.func 36) #[] #[])) (hb : w.cell? ⟨b, 0, none⟩ = some (.func (Fn.func 37) #[] #[])) (hla : a < w.heap.size) (hlb : b < w.heap.size) (hld : d < w.heap.size) :
    Calls Try.prog 42 #[.agg #[.bool k, .bool c, .bool z, .bool s, .bool o], .pointer (some ⟨d, 0, none⟩)] w fun e w' => e = .returned (.bool (!(c || z))) ∧ Below w.heap.size w w' := by
  have H0 := (Below.refl w.heap.size w).alloc (Nat.le_refl _) (.cells #[.bool k, .bool c, .bool z, .bool s, .bool o] 25)
  have ha' := (H0.cell (p := ⟨a, 0, none⟩) hla).trans ha
  have hb' := (H0.cell (p := ⟨b, 0, none⟩) hlb).trans hb
  go_enter Try.func42, Try.ntmps42
  go_wp2_with fail
  refine (cl_or1 _ _ _ _ _ _ _ _ ha' hb' (al_lt hla _) (al_lt hlb _)).mono ?_
  rintro e w1 ⟨rfl, hb1⟩
  have H1 := below_two H0 hb1 (le_alloc _ (Nat.le_refl _))
  go_wp2
  go_ret
  exact ⟨by first | rfl | simp, H1⟩
set_option maxHeartbeats 1000000 in
theorem cl_no2 (k c z s o : Bool) (d a b : Nat) (w : World) (hd : w.cell? ⟨d, 0, none⟩ = some (.func (Fn.func 40) #[] #[.pointer (some ⟨a, 0, none⟩), .pointer (some ⟨b, 0, none⟩)])) (ha : w.cell? ⟨a, 0, none⟩ = some (.func (Fn.func 37) #[] #[])) (hb : w.cell? ⟨b, 0, none⟩ = some (.func (Fn.func 38) #[] #[])) (hla : a < w.heap.size) (hlb : b < w.heap.size) (hld : d < w.heap.size) :
    Calls Try.prog 42 #[.agg #[.bool k, .bool c, .bool z, .bool s, .bool o], .pointer (some ⟨d, 0, none⟩)] w fun e w' => e = .returned (.bool (!(z || (s != o)))) ∧ Below w.heap.size w w' := by
  have H0 := (Below.refl w.heap.size w).alloc (Nat.le_refl _) (.cells #[.bool k, .bool c, .bool z, .bool s, .bool o] 25)
  have ha' := (H0.cell (p := ⟨a, 0, none⟩) hla).trans ha
  have hb' := (H0.cell (p := ⟨b, 0, none⟩) hlb).trans hb
  go_enter Try.func42, Try.ntmps42
  go_wp2_with fail
  refine (cl_or2 _ _ _ _ _ _ _ _ ha' hb' (al_lt hla _) (al_lt hlb _)).mono ?_
  rintro e w1 ⟨rfl, hb1⟩
  have H1 := below_two H0 hb1 (le_alloc _ (Nat.le_refl _))
  go_wp2
  go_ret
  exact ⟨by first | rfl | simp, H1⟩
end Go.Proofs.Ytejgpgkigcbflaa
