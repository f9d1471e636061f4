/-
  The walk of ModrmLens: it answers true. Conditions: none but that numbers fit their kinds.
-/
import Derived.Test.YtladeiighbbioaaLc
namespace Go.Proofs.Ytladeiighbbioaa
open Go.RowKit
theorem regE_of {r a : Int} {b : Bool} (h : regOk r a = b) : regE r a = if b then 0 else 2 := by rw [regE, h]
theorem regK_of {r a : Int} {b : Bool} (h : regOk r a = b) : regK r a = if b then 1 else 0 := by rw [regK, h]
theorem Reads.take_ {w : World} {B n k : Nat} {A : Option Addr} {l : List Int} (h : Reads w B 1 A n (l.map (Value.int .u8))) (hk : k ≤ n) : Reads w B 1 A k ((l.take k).map (Value.int .u8)) := by
  have hn : l.length = n := by have := h.1; simpa using this
  refine ⟨by simp; omega, fun h0 => ?_⟩
  obtain ⟨ad, rfl, hb, hc⟩ := h.2 (by omega)
  refine ⟨ad, rfl, hb, fun j u hj => hc j u ?_⟩
  have hjk : j < k := by
    rcases Nat.lt_or_ge j k with h2 | h2
    · exact h2
    · rw [List.getElem?_eq_none (by simp; omega)] at hj; cases hj
  rw [← hj]
  simp [hjk]
theorem rdV_cut (r a d : Int) (k : Nat) (hk : k < memN a) : rdV ((memB r a d).take k) = rdNo := by
  cases k with
  | zero => rfl
  | succ k =>
    have hm : memB r a d = lo 128 r a :: (sibB a ++ numB d 4) := rfl
    have hlen := memB_len r a d
    rw [hm] at hlen ⊢
    rw [List.take_succ_cons]
    have hl : ((sibB a ++ numB d 4).take k).length = k := by simp only [List.length_cons] at hlen; rw [List.length_take]; omega
    simp only [rdV, List.length_cons, hl]
    have hb : 128 ≤ lo 128 r a ∧ lo 128 r a < 192 ∧ lo 128 r a % 8 = a % 8 := by unfold lo; omega
    rw [if_neg (by omega), if_neg (by omega), hb.2.2]
    by_cases h4 : a % 8 = 4
    · have : memN a = 6 := by simp [memN, h4]
      rw [if_pos h4, if_neg (by omega)]
    · have : memN a = 5 := by simp [memN, h4]
      rw [if_neg h4, if_neg (by omega)]
set_option maxRecDepth 100000 in
set_option maxHeartbeats 1000000 in
theorem lens_walk (r a d cut : Int) (hcut : (Lit.int .i64 cut).wf = true) (w : World) :
    Calls Try.prog 7 #[.int .i8 r, .int .i8 a, .int .i64 d, .int .i64 cut] w fun e w' => e = .returned (.bool true) ∧ Below w.heap.size w w' := by
  have hct := bounds_i64 hcut
  clear hcut
  cases hm : memOk r a d
  · have hE : memE r a d = 2 := by simp [memE, hm]
    have hK : memK r a d = 0 := by simp [memK, hm]
    have HE := hide hE
    have HK := hide hK
    clear hE hK hm
    cases hr : regOk r a
    all_goals
      have hE := regE_of hr
      have hK := regK_of hr
      have HRE := hide hE
      have HRK := hide hK
      clear hE hK hr
      go_enter Try.func7, Try.ntmps7
      go_wp2_with fail
      refine (regs_all _ _ _).mono ?_
      rintro e w1 ⟨A1, c1, rfl, hc1, hr1, hb1⟩
      rw [HRE.out, HRK.out]
      go_wp2_with fail
      refine (mem_all _ _ _ _).mono ?_
      rintro e w3 ⟨A3, c3, rfl, hc3, hr3, hb3⟩
      rw [HE.out, HK.out]
      go_wp2_with (first | (go_at_call 11; refine (wakes_any _).mono ?_; rintro e w7 ⟨rfl, hb7⟩))
      go_ret
      exact ⟨rfl, (hb1.trans (hb3.mono hb1.size)).trans (hb7.mono (Nat.le_trans hb1.size hb3.size))⟩
  · obtain ⟨hnum, hrr, haa⟩ : numOk d 4 = true ∧ regB r = true ∧ regB a = true := by simpa [memOk] using hm
    have hE : memE r a d = 0 := by simp [memE, hm]
    have hK : memK r a d = memN a := by simp [memK, hm]
    have hL : memL r a d = memB r a d := by simp [memL, hm]
    have hE1 : regE r a = 0 := by simp [regE, regOk, hrr, haa]
    have hK1 : regK r a = 1 := by simp [regK, regOk, hrr, haa]
    have hb7 := i8_and7 a (regB_iff.1 haa).1 (regB_iff.1 haa).2
    have HE := hide hE
    have HK := hide hK
    have HL := hide hL
    have HE1 := hide hE1
    have HK1 := hide hK1
    have HRR := hide hrr
    have HAA := hide haa
    clear hE hK hL hE1 hK1 hnum hm hrr haa
    by_cases h4 : a % 8 = 4
    · have hb4 : (bits .and .i8 a 7 == 4) = true := by rw [hb7]; simp [h4]
      have hn : memN a = 6 := by simp [memN, h4]
      have HN := hide hn
      have ht : -6 < cut.tmod 6 ∧ cut.tmod 6 < 6 := ⟨Int.lt_tmod_of_pos _ (by omega), Int.tmod_lt_of_pos _ (by omega)⟩
      clear hn h4 hb7
      go_enter Try.func7, Try.ntmps7
      go_wp2_with fail
      refine (regs_all _ _ _).mono ?_
      rintro e w1 ⟨A1, c1, rfl, hc1, hr1, hb1⟩
      rw [HE1.out, HK1.out]
      go_wp2_with fail
      refine (mem_all _ _ _ _).mono ?_
      rintro e w3 ⟨A3, c3, rfl, hc3, hr3, hb3⟩
      rw [HE.out, HK.out, HN.out]
      rw [HK.out, HN.out] at hc3 hr3
      rw [HL.out] at hr3
      go_wp2_with fail
      have hk : (cut.tmod 6 % 6).toNat < 6 := by omega
      generalize (cut.tmod 6 % 6).toNat = k at *
      refine (read_any ((memB r a d).take k) k c3 _ A3 _ (by exact Reads.take_ hr3 (by omega)) (isBytes_take (isB_memB r a d) k) (by omega)).mono ?_
      rintro e w' ⟨rfl, k1, rfl⟩
      rw [rdV_cut r a d k (by rw [HN.out]; exact hk), rdNo]
      go_wp2_with (first | (go_at_call 11; refine (wakes_any _).mono ?_; rintro e w7 ⟨rfl, hb7⟩))
      go_ret
      exact ⟨rfl, ((hb1.trans (hb3.mono hb1.size)).trans (below_drewN (Below.refl _ _) k1)).trans (hb7.mono (Nat.le_trans hb1.size hb3.size))⟩
    · have hb4 : (bits .and .i8 a 7 == 4) = false := by rw [hb7]; simp [h4]
      have hn : memN a = 5 := by simp [memN, h4]
      have HN := hide hn
      have ht : -5 < cut.tmod 5 ∧ cut.tmod 5 < 5 := ⟨Int.lt_tmod_of_pos _ (by omega), Int.tmod_lt_of_pos _ (by omega)⟩
      clear hn h4 hb7
      go_enter Try.func7, Try.ntmps7
      go_wp2_with fail
      refine (regs_all _ _ _).mono ?_
      rintro e w1 ⟨A1, c1, rfl, hc1, hr1, hb1⟩
      rw [HE1.out, HK1.out]
      go_wp2_with fail
      refine (mem_all _ _ _ _).mono ?_
      rintro e w3 ⟨A3, c3, rfl, hc3, hr3, hb3⟩
      rw [HE.out, HK.out, HN.out]
      rw [HK.out, HN.out] at hc3 hr3
      rw [HL.out] at hr3
      go_wp2_with fail
      have hk : (cut.tmod 5 % 5).toNat < 5 := by omega
      generalize (cut.tmod 5 % 5).toNat = k at *
      refine (read_any ((memB r a d).take k) k c3 _ A3 _ (by exact Reads.take_ hr3 (by omega)) (isBytes_take (isB_memB r a d) k) (by omega)).mono ?_
      rintro e w' ⟨rfl, k1, rfl⟩
      rw [rdV_cut r a d k (by rw [HN.out]; exact hk), rdNo]
      go_wp2_with (first | (go_at_call 11; refine (wakes_any _).mono ?_; rintro e w7 ⟨rfl, hb7⟩))
      go_ret
      exact ⟨rfl, ((hb1.trans (hb3.mono hb1.size)).trans (below_drewN (Below.refl _ _) k1)).trans (hb7.mono (Nat.le_trans hb1.size hb3.size))⟩
end Go.Proofs.Ytladeiighbbioaa
