/-
  The walk of ModrmReads: it answers true. Conditions: none but that the byte fits its kind.
-/
import Derived.Test.YtladeiighbbioaaLa
namespace Go.Proofs.Ytladeiighbbioaa
open Go.RowKit
theorem rdV_shape (l : List Int) : ∃ a b d m n e, rdV l = .tuple #[.int .i8 a, .int .i8 b, .int .i64 d, .bool m, .int .i64 n, .int .i64 e] := by
  unfold rdV rdNo
  split
  · exact ⟨_, _, _, _, _, _, rfl⟩
  · repeat' split
    all_goals exact ⟨_, _, _, _, _, _, rfl⟩
set_option maxHeartbeats 400000 in
theorem reads_walk (q : Int) (A : Option Addr) (n c : Nat) (l : List Int) (hq : (Lit.int .u8 q).wf = true) (w : World) (hr : Reads w w.heap.size 1 A n (l.map (Value.int .u8))) (hb : IsBytes l) (hc : n ≤ c) :
    Calls Try.prog 6 #[.int .u8 q, .slice A n c] w fun e w' => e = .returned (.bool true) ∧ Below w.heap.size w w' := by
  have hq0 := bounds_u8 hq
  clear hq
  have HR := hide hr
  have HB := hide hb
  clear hr hb
  by_cases h100 : 100 < n
  · go_enter Try.func6, Try.ntmps6
    go_wp2_with (go_at_call 11; refine (wakes_any _).mono ?_; rintro e w7 ⟨rfl, hb7⟩)
    go_ret
    exact ⟨rfl, hb7⟩
  · obtain ⟨a1, a2, a3, a4, a5, a6, hv⟩ := rdV_shape l
    have HV := hide hv
    clear hv
    go_enter Try.func6, Try.ntmps6
    go_wp2_with fail
    refine (readrex_any _ _ hq0.1 (by omega)).mono ?_
    rintro e w' ⟨rfl, rfl⟩
    go_wp2_with fail
    refine (rreadrex_any _ _ hq0.1 (by omega)).mono ?_
    rintro e w' ⟨rfl, rfl⟩
    go_wp2_with fail
    refine (read_any l n c _ A _ HR.out HB.out hc).mono ?_
    rintro e w' ⟨rfl, k1, rfl⟩
    rw [HV.out]
    go_wp2_with fail
    refine (rread_any l n c w.heap.size A _ (by exact HR.out) HB.out hc).mono ?_
    rintro e w' ⟨rfl, k2, rfl⟩
    rw [HV.out]
    generalize rxW q = x1, rxR q = x2, rxA q = x3, rxOk q = x4 at *
    go_wp2_with (first | (go_at_call 24; refine (signed_any l n c w.heap.size A _ (by exact HR.out) HB.out hc).mono ?_; rintro e w' ⟨rfl, rfl⟩) | (go_at_call 25; refine (rsigned_any l n c w.heap.size A _ (by exact HR.out) HB.out hc).mono ?_; rintro e w' ⟨rfl, rfl⟩) | (go_at_call 11; refine (wakes_any _).mono ?_; rintro e w7 ⟨rfl, hb7⟩))
    go_ret
    trace_state
    exact ⟨rfl, (below_drewN (Below.refl _ _) _).trans hb7⟩
end Go.Proofs.Ytladeiighbbioaa
