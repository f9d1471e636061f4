/-
  Contracts of norm's Zext, Narrow. Conditions: those written in each statement.
-/
import Derived.Test.YtfjflefgclfbfaaGreatNg
namespace Go.Proofs.YtfjflefgclfbfaaGreat
open Go.RowKit
set_option linter.unusedVariables false
set_option linter.unusedSimpArgs false
set_option maxRecDepth 100000
/-- What Zext comes to; none: the fuel does not reach. -/
def zextO (f : Nat) (p : PS) (x a : Int) : Option RS := if hasB p.T a = false ∨ wdB x = false then some (p, 0, 2) else zextF f p x a
theorem wd_of {x : Int} (h : wdB x = true) : x = 8 ∨ x = 16 ∨ x = 32 ∨ x = 64 := by unfold wdB at h; simp at h; omega
theorem reads_list (w : World) (e : TypeId) (xs : List Value) (n : Nat) (hn : xs.length = n * 1) : Reads (w.alloc (.cells xs.toArray e)) (w.alloc (.cells xs.toArray e)).heap.size 1 (some ⟨w.heap.size, 0, none⟩) n xs := reads_blk (Blk.new w e xs.toArray) n 1 hn
section
variable {base g : Nat} {F : Nat → Prop} {p : PS}
set_option maxHeartbeats 1000000 in
theorem Zext_any (f : Nat) (x a : Int) (ha : I64 a) (r : RS) (hz : zextO f p x a = some r) (w : World) (h : PoolAt w base F g p) (hbase : base ≤ w.heap.size) :
    Calls Tryz.prog 17 #[.pointer (some ⟨g, 0, none⟩), .int .i8 x, .int .i64 a] w (RetP base g F w r) := by
  have hb0 : Below w.heap.size w (w.alloc (.cells #[.int .i64 a] 3)) := (Below.refl _ w).alloc (Nat.le_refl _) _
  have HP := hide (PG.of_below h hb0)
  have HRD := hide (reads_list w 3 [.int .i64 a] 1 rfl)
  obtain ⟨hb, hhb⟩ : ∃ hb, hasB p.T a = hb := ⟨_, rfl⟩
  obtain ⟨wb, hwb⟩ : ∃ wb, wdB x = wb := ⟨_, rfl⟩
  have HE := hide hz
  unfold zextO at HE
  have HHB := hide hhb
  have HWB := hide hwb
  rw [hhb, hwb] at HE
  have HA := hide ha
  have hbs := Nat.le_trans hbase HP.out.size
  clear h hb0 hz hhb hwb ha
  go_enter Tryz.func17, Tryz.ntmps17
  go_wp2_with fail
  refine (there_any [a] _ 1 1 _ HP.out.pool HRD.out rfl (Nat.le_refl _) (by omega)).mono ?_
  rintro e w1 ⟨rfl, hb1⟩
  have HP1 := hide (HP.out.step hb1)
  clear hb1 HP HRD
  have hbs1 := Nat.le_trans hbase HP1.out.size
  cases hb
  · rw [show (if [a].all (hasB p.T) = true then (0 : Int) else 2) = 2 by simp [HHB.out]]
    go_wp2
    go_ret2
    have he := HE.out
    rw [if_pos (by simp)] at he
    injection he with he
    rw [← he]
    exact RetP.same HP1.out
  · rw [show (if [a].all (hasB p.T) = true then (0 : Int) else 2) = 0 by simp [HHB.out]]
    go_wp2_with fail
    refine (width_any x _).mono ?_
    rintro e w2 ⟨rfl, rfl⟩
    rw [HWB.out]
    cases wb
    · go_wp2
      go_ret2
      have he := HE.out
      rw [if_pos (by simp)] at he
      injection he with he
      rw [← he]
      exact RetP.same HP1.out
    · have HZ := hide (show zextF f p x a = some r by have he := HE.out; simpa using he)
      go_wp2_with fail
      refine (zext_any x (wd_of HWB.out) f a HA.out _ p r HZ.out _ HP1.out.pool hbs1).mono ?_
      rintro e w3 ⟨rfl, hr⟩
      have HR := hide hr
      clear hr
      go_wp2
      go_ret2
      exact RetP.from HP1.out ⟨rfl, HR.out⟩
set_option maxHeartbeats 1000000 in
theorem Narrow_any (x a : Int) (w : World) (h : PoolAt w base F g p) :
    Calls Tryz.prog 11 #[.pointer (some ⟨g, 0, none⟩), .int .i64 a, .int .i8 x] w fun e w' => e = .returned (.bool (hasB p.T a && (wdB x && narrowP p.T a x))) ∧ Below w.heap.size w w' := by
  have hb0 : Below w.heap.size w (w.alloc (.cells #[.int .i64 a] 3)) := (Below.refl _ w).alloc (Nat.le_refl _) _
  have HP := hide (h.below hb0)
  have HB := hide hb0
  have HRD := hide (reads_list w 3 [.int .i64 a] 1 rfl)
  obtain ⟨hb, hhb⟩ : ∃ hb, hasB p.T a = hb := ⟨_, rfl⟩
  obtain ⟨wb, hwb⟩ : ∃ wb, wdB x = wb := ⟨_, rfl⟩
  obtain ⟨nb, hnb⟩ : ∃ nb, narrowP p.T a x = nb := ⟨_, rfl⟩
  rw [hhb, hwb, hnb]
  have HHB := hide hhb
  have HWB := hide hwb
  have HNB := hide hnb
  clear h hb0 hhb hwb hnb
  go_enter Tryz.func11, Tryz.ntmps11
  go_wp2_with fail
  refine (there_any [a] _ 1 1 _ HP.out HRD.out rfl (Nat.le_refl _) (by omega)).mono ?_
  rintro e w1 ⟨rfl, hb1⟩
  have HP1 := hide (HP.out.below hb1)
  have HB1 := hide (HB.out.trans (hb1.mono HB.out.size))
  clear hb1 HP HRD HB
  cases hb
  · rw [show (if [a].all (hasB p.T) = true then (0 : Int) else 2) = 2 by simp [HHB.out]]
    go_wp2
    go_ret
    exact ⟨rfl, HB1.out⟩
  · rw [show (if [a].all (hasB p.T) = true then (0 : Int) else 2) = 0 by simp [HHB.out]]
    go_wp2_with fail
    refine (width_any x _).mono ?_
    rintro e w2 ⟨rfl, rfl⟩
    rw [HWB.out]
    cases wb
    · go_wp2
      go_ret
      exact ⟨rfl, HB1.out⟩
    · go_wp2_with fail
      refine (narrow_any a x (wd_of HWB.out) _ HP1.out).mono ?_
      rintro e w3 ⟨rfl, hb3⟩
      rw [HNB.out]
      have HB3 := hide (HB1.out.trans (hb3.mono HB1.out.size))
      clear hb3
      go_wp2
      go_ret
      exact ⟨rfl, HB3.out⟩
end
end Go.Proofs.YtfjflefgclfbfaaGreat
