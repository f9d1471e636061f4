/-
  Contracts of latheref14's None, May, Not, Holds and of flags.Not. Conditions: those written in each statement.
-/
import Derived.Test.YtejgpgkigcbflaaWg
namespace Go.Proofs.Ytejgpgkigcbflaa
open Go.RowKit
set_option maxHeartbeats 400000 in
theorem rnone_any (w : World) : Calls Try.prog 23 #[] w fun e w' => e = .returned (.agg #[.bool false, .bool false, .bool false, .bool false, .bool false]) ∧ Below w.heap.size w w' := by
  go_enter Try.func23, Try.ntmps23
  go_wp2
  refine bodyPost_ret (v := .agg #[.bool false, .bool false, .bool false, .bool false, .bool false]) (by simp [results, Try.results23, go_sem]) rfl ⟨rfl, (Below.refl _ _).alloc (Nat.le_refl _) _⟩
theorem mayB_cases {cc : Int} (h : mayB cc = true) : cc = 2 ∨ cc = 3 ∨ cc = 4 ∨ cc = 5 ∨ cc = 6 ∨ cc = 7 ∨ cc = 12 ∨ cc = 13 ∨ cc = 14 ∨ cc = 15 := by
  simp [mayB] at h
  exact h
set_option maxHeartbeats 400000 in
theorem rmay_any (cc : Int) (w : World) : Calls Try.prog 16 #[.int .i8 cc] w fun e w' => e = .returned (.bool (mayB cc)) ∧ w = w' := by
  cases h : mayB cc
  · have e2 : (cc == 2) = false := by cases hh : (cc == 2) <;> simp_all [mayB]
    have e3 : (cc == 3) = false := by cases hh : (cc == 3) <;> simp_all [mayB]
    have e4 : (cc == 4) = false := by cases hh : (cc == 4) <;> simp_all [mayB]
    have e5 : (cc == 5) = false := by cases hh : (cc == 5) <;> simp_all [mayB]
    have e6 : (cc == 6) = false := by cases hh : (cc == 6) <;> simp_all [mayB]
    have e7 : (cc == 7) = false := by cases hh : (cc == 7) <;> simp_all [mayB]
    have e12 : (cc == 12) = false := by cases hh : (cc == 12) <;> simp_all [mayB]
    have e13 : (cc == 13) = false := by cases hh : (cc == 13) <;> simp_all [mayB]
    have e14 : (cc == 14) = false := by cases hh : (cc == 14) <;> simp_all [mayB]
    have e15 : (cc == 15) = false := by cases hh : (cc == 15) <;> simp_all [mayB]
    clear h
    go_enter Try.func16, Try.ntmps16
    go_wp2
    go_ret
    exact ⟨rfl, rfl⟩
  · rcases mayB_cases h with rfl | rfl | rfl | rfl | rfl | rfl | rfl | rfl | rfl | rfl
    all_goals
      clear h
      go_enter Try.func16, Try.ntmps16
      go_wp2
      go_ret
      exact ⟨rfl, rfl⟩
/-- The opposite condition. -/
def notV (cc : Int) : Int := if mayB cc then bits .xor .i8 cc 1 else 0
theorem notV_of {cc : Int} {b : Bool} (h : mayB cc = b) : notV cc = if b then bits .xor .i8 cc 1 else 0 := by rw [notV, h]
theorem ret_ib {a b : Int} {k : IntKind} {x y : Bool} (h : a = b) (g : x = y) : Ending.returned (.tuple #[.int k a, .bool x]) = .returned (.tuple #[.int k b, .bool y]) := by rw [h, g]
set_option maxHeartbeats 400000 in
theorem not_any (cc : Int) (w : World) : Calls Try.prog 13 #[.int .i8 cc] w fun e w' => e = .returned (.tuple #[.int .i8 (notV cc), .bool (mayB cc)]) ∧ Below w.heap.size w w' := by
  cases h : mayB cc
  all_goals
    have hn := notV_of h
    have HN := hide hn
    clear hn
    go_enter Try.func13, Try.ntmps13
    go_wp2_with fail
    refine (may_any _ _).mono ?_
    rintro e w1 ⟨rfl, hb1⟩
    rw [h]
    go_wp2
    go_ret2
    exact ⟨ret_ib (by rw [HN.out]; rfl) rfl, hb1⟩
set_option maxHeartbeats 400000 in
theorem rnot_any (cc : Int) (w : World) : Calls Try.prog 14 #[.int .i8 cc] w fun e w' => e = .returned (.tuple #[.int .i8 (notV cc), .bool (mayB cc)]) ∧ Below w.heap.size w w' := by
  cases h : mayB cc
  all_goals
    have hn := notV_of h
    have HN := hide hn
    clear hn
    go_enter Try.func14, Try.ntmps14
    go_wp2_with fail
    refine (rmay_any _ _).mono ?_
    rintro e w1 ⟨rfl, rfl⟩
    rw [h]
    go_wp2
    go_ret2
    exact ⟨ret_ib (by rw [HN.out]; rfl) rfl, Below.refl _ _⟩
/-- What a condition says of flags that are known. -/
def condB (cc : Int) (c z s o : Bool) : Bool :=
  if cc = 2 then c else if cc = 3 then !c else if cc = 4 then z else if cc = 5 then !z else if cc = 6 then c || z else if cc = 7 then !(c || z) else if cc = 12 then s != o else if cc = 13 then !(s != o) else if cc = 14 then z || (s != o) else if cc = 15 then !(z || (s != o)) else false
def hE (cc : Int) (k : Bool) : Int := if mayB cc then (if k then 0 else 20) else 2
def hB (cc : Int) (k c z s o : Bool) : Bool := mayB cc && (k && condB cc c z s o)
theorem ret_bi' {a b : Bool} {k : IntKind} {n m : Int} (h : a = b) (g : n = m) : Ending.returned (.tuple #[.bool a, .int k n]) = .returned (.tuple #[.bool b, .int k m]) := by rw [h, g]
set_option maxHeartbeats 1000000 in
theorem rholds_any (cc : Int) (k c z s o : Bool) (w : World) :
    Calls Try.prog 12 #[.int .i8 cc, .agg #[.bool k, .bool c, .bool z, .bool s, .bool o]] w fun e w' => e = .returned (.tuple #[.bool (hB cc k c z s o), .int .i64 (hE cc k)]) ∧ Below w.heap.size w w' := by
  cases h : mayB cc
  · have h1 : hB cc k c z s o = false := by simp [hB, h]
    have h2 : hE cc k = 2 := by simp [hE, h]
    have H := hide (And.intro h1 h2)
    clear h1 h2
    go_enter Try.func12, Try.ntmps12
    go_wp2_with fail
    refine (rmay_any _ _).mono ?_
    rintro e w' ⟨rfl, rfl⟩
    rw [h]
    go_wp2
    go_ret2
    exact ⟨ret_bi' H.out.1.symm H.out.2.symm, (Below.refl _ _).alloc (Nat.le_refl _) _⟩
  · cases k
    · have h1 : hB cc false c z s o = false := by simp [hB]
      have h2 : hE cc false = 20 := by simp [hE, h]
      have H := hide (And.intro h1 h2)
      clear h1 h2
      go_enter Try.func12, Try.ntmps12
      go_wp2_with fail
      refine (rmay_any _ _).mono ?_
      rintro e w' ⟨rfl, rfl⟩
      rw [h]
      go_wp2
      go_ret2
      exact ⟨ret_bi' H.out.1.symm H.out.2.symm, (Below.refl _ _).alloc (Nat.le_refl _) _⟩
    · rcases mayB_cases h with rfl | rfl | rfl | rfl | rfl | rfl | rfl | rfl | rfl | rfl
      · have e1 : bits .andNot .i8 2 1 = 2 := by decide +kernel
        have e2 : bits .and .i8 2 1 = 0 := by decide +kernel
        clear h
        go_enter Try.func12, Try.ntmps12
        go_wp2_with (go_at_call 16; refine (rmay_any _ _).mono ?_; rintro e w' ⟨rfl, rfl⟩; rw [show mayB 2 = true from rfl])
        all_goals
          go_ret2
          exact ⟨ret_bi' (by cases c <;> cases z <;> cases s <;> cases o <;> simp_all [hB, condB, mayB]) rfl, by first | exact (Below.refl _ _).alloc (Nat.le_refl _) _ | exact below_drewN ((Below.refl _ _).alloc (Nat.le_refl _) _) _ | exact ((Below.refl _ _).alloc (Nat.le_refl _) _).drew⟩
      · have e1 : bits .andNot .i8 3 1 = 2 := by decide +kernel
        have e2 : bits .and .i8 3 1 = 1 := by decide +kernel
        clear h
        go_enter Try.func12, Try.ntmps12
        go_wp2_with (go_at_call 16; refine (rmay_any _ _).mono ?_; rintro e w' ⟨rfl, rfl⟩; rw [show mayB 3 = true from rfl])
        all_goals
          go_ret2
          exact ⟨ret_bi' (by cases c <;> cases z <;> cases s <;> cases o <;> simp_all [hB, condB, mayB]) rfl, by first | exact (Below.refl _ _).alloc (Nat.le_refl _) _ | exact below_drewN ((Below.refl _ _).alloc (Nat.le_refl _) _) _ | exact ((Below.refl _ _).alloc (Nat.le_refl _) _).drew⟩
      · have e1 : bits .andNot .i8 4 1 = 4 := by decide +kernel
        have e2 : bits .and .i8 4 1 = 0 := by decide +kernel
        clear h
        go_enter Try.func12, Try.ntmps12
        go_wp2_with (go_at_call 16; refine (rmay_any _ _).mono ?_; rintro e w' ⟨rfl, rfl⟩; rw [show mayB 4 = true from rfl])
        all_goals
          go_ret2
          exact ⟨ret_bi' (by cases c <;> cases z <;> cases s <;> cases o <;> simp_all [hB, condB, mayB]) rfl, by first | exact (Below.refl _ _).alloc (Nat.le_refl _) _ | exact below_drewN ((Below.refl _ _).alloc (Nat.le_refl _) _) _ | exact ((Below.refl _ _).alloc (Nat.le_refl _) _).drew⟩
      · have e1 : bits .andNot .i8 5 1 = 4 := by decide +kernel
        have e2 : bits .and .i8 5 1 = 1 := by decide +kernel
        clear h
        go_enter Try.func12, Try.ntmps12
        go_wp2_with (go_at_call 16; refine (rmay_any _ _).mono ?_; rintro e w' ⟨rfl, rfl⟩; rw [show mayB 5 = true from rfl])
        all_goals
          go_ret2
          exact ⟨ret_bi' (by cases c <;> cases z <;> cases s <;> cases o <;> simp_all [hB, condB, mayB]) rfl, by first | exact (Below.refl _ _).alloc (Nat.le_refl _) _ | exact below_drewN ((Below.refl _ _).alloc (Nat.le_refl _) _) _ | exact ((Below.refl _ _).alloc (Nat.le_refl _) _).drew⟩
      · have e1 : bits .andNot .i8 6 1 = 6 := by decide +kernel
        have e2 : bits .and .i8 6 1 = 0 := by decide +kernel
        clear h
        go_enter Try.func12, Try.ntmps12
        go_wp2_with (go_at_call 16; refine (rmay_any _ _).mono ?_; rintro e w' ⟨rfl, rfl⟩; rw [show mayB 6 = true from rfl])
        all_goals
          go_ret2
          exact ⟨ret_bi' (by cases c <;> cases z <;> cases s <;> cases o <;> simp_all [hB, condB, mayB]) rfl, by first | exact (Below.refl _ _).alloc (Nat.le_refl _) _ | exact below_drewN ((Below.refl _ _).alloc (Nat.le_refl _) _) _ | exact ((Below.refl _ _).alloc (Nat.le_refl _) _).drew⟩
      · have e1 : bits .andNot .i8 7 1 = 6 := by decide +kernel
        have e2 : bits .and .i8 7 1 = 1 := by decide +kernel
        clear h
        go_enter Try.func12, Try.ntmps12
        go_wp2_with (go_at_call 16; refine (rmay_any _ _).mono ?_; rintro e w' ⟨rfl, rfl⟩; rw [show mayB 7 = true from rfl])
        all_goals
          go_ret2
          exact ⟨ret_bi' (by cases c <;> cases z <;> cases s <;> cases o <;> simp_all [hB, condB, mayB]) rfl, by first | exact (Below.refl _ _).alloc (Nat.le_refl _) _ | exact below_drewN ((Below.refl _ _).alloc (Nat.le_refl _) _) _ | exact ((Below.refl _ _).alloc (Nat.le_refl _) _).drew⟩
      · have e1 : bits .andNot .i8 12 1 = 12 := by decide +kernel
        have e2 : bits .and .i8 12 1 = 0 := by decide +kernel
        clear h
        go_enter Try.func12, Try.ntmps12
        go_wp2_with (go_at_call 16; refine (rmay_any _ _).mono ?_; rintro e w' ⟨rfl, rfl⟩; rw [show mayB 12 = true from rfl])
        all_goals
          go_ret2
          exact ⟨ret_bi' (by cases c <;> cases z <;> cases s <;> cases o <;> simp_all [hB, condB, mayB]) rfl, by first | exact (Below.refl _ _).alloc (Nat.le_refl _) _ | exact below_drewN ((Below.refl _ _).alloc (Nat.le_refl _) _) _ | exact ((Below.refl _ _).alloc (Nat.le_refl _) _).drew⟩
      · have e1 : bits .andNot .i8 13 1 = 12 := by decide +kernel
        have e2 : bits .and .i8 13 1 = 1 := by decide +kernel
        clear h
        go_enter Try.func12, Try.ntmps12
        go_wp2_with (go_at_call 16; refine (rmay_any _ _).mono ?_; rintro e w' ⟨rfl, rfl⟩; rw [show mayB 13 = true from rfl])
        all_goals
          go_ret2
          exact ⟨ret_bi' (by cases c <;> cases z <;> cases s <;> cases o <;> simp_all [hB, condB, mayB]) rfl, by first | exact (Below.refl _ _).alloc (Nat.le_refl _) _ | exact below_drewN ((Below.refl _ _).alloc (Nat.le_refl _) _) _ | exact ((Below.refl _ _).alloc (Nat.le_refl _) _).drew⟩
      · have e1 : bits .andNot .i8 14 1 = 14 := by decide +kernel
        have e2 : bits .and .i8 14 1 = 0 := by decide +kernel
        clear h
        go_enter Try.func12, Try.ntmps12
        go_wp2_with (go_at_call 16; refine (rmay_any _ _).mono ?_; rintro e w' ⟨rfl, rfl⟩; rw [show mayB 14 = true from rfl])
        all_goals
          go_ret2
          exact ⟨ret_bi' (by cases c <;> cases z <;> cases s <;> cases o <;> simp_all [hB, condB, mayB]) rfl, by first | exact (Below.refl _ _).alloc (Nat.le_refl _) _ | exact below_drewN ((Below.refl _ _).alloc (Nat.le_refl _) _) _ | exact ((Below.refl _ _).alloc (Nat.le_refl _) _).drew⟩
      · have e1 : bits .andNot .i8 15 1 = 14 := by decide +kernel
        have e2 : bits .and .i8 15 1 = 1 := by decide +kernel
        clear h
        go_enter Try.func12, Try.ntmps12
        go_wp2_with (go_at_call 16; refine (rmay_any _ _).mono ?_; rintro e w' ⟨rfl, rfl⟩; rw [show mayB 15 = true from rfl])
        all_goals
          go_ret2
          exact ⟨ret_bi' (by cases c <;> cases z <;> cases s <;> cases o <;> simp_all [hB, condB, mayB]) rfl, by first | exact (Below.refl _ _).alloc (Nat.le_refl _) _ | exact below_drewN ((Below.refl _ _).alloc (Nat.le_refl _) _) _ | exact ((Below.refl _ _).alloc (Nat.le_refl _) _).drew⟩
end Go.Proofs.Ytejgpgkigcbflaa
