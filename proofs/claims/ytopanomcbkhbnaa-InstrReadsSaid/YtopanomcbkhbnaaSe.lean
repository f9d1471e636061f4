/-
  latheref03.Read: an instruction out of bytes, the document's. Conditions: those written in each statement.
-/
import Derived.Test.YtopanomcbkhbnaaSc
import Derived.Test.YtopanomcbkhbnaaSd
import Derived.Test.YtopanomcbkhbnaaIj
namespace Go.Proofs.Ytopanomcbkhbnaa
open Go.RowKit
set_option linter.unusedVariables false
set_option linter.unusedSimpArgs false
theorem j_by : ∀ n : Fin 64, (bits .and .i64 (n.val : Int) 16 != 0) = ((n.val : Int) % 32 / 16 == 1) := by decide +kernel
theorem j_15 : ∀ n : Fin 256, bits .and .i64 (n.val : Int) 15 = (n.val : Int) % 16 := by decide +kernel
set_option maxRecDepth 100000 in
set_option maxHeartbeats 8000000 in
theorem rread_any (b : List Int) (A : Option Addr) (n c : Nat) (w : World) (hl : b.length = n) (hr : Reads w w.heap.size 1 A n (b.map (Value.int .u8))) (hb : IsBytes b) (hc : n ≤ c) (hm : n < 9223372036854775808) :
    Calls Try.prog 25 #[.slice A n c] w (ReadP b w) := by
  by_cases h8 : n = 8
  · subst h8
    match b, hl with
    | [b0, b1, b2, b3, b4, b5, b6, b7], _ =>
      obtain ⟨ad, rfl, hab, hcell⟩ := hr.2 (by omega)
      have q0 : w.cell? ad = some (.int .u8 b0) := by have := hcell 0 (.int .u8 b0) rfl; rwa [show ad.add 0 = ad from rfl] at this
      have B0 := hb b0 (by simp)
      have B1 := hb b1 (by simp)
      have hn2 : ¬ c = 2 := by omega
      have hn4 : ¬ c = 4 := by omega
      have hr2 : Reads w w.heap.size 1 (some ⟨ad.block, ad.off + 2, none⟩) 2 (([b2, b3]).map (Value.int .u8)) := by
        have := (hr.cut (k := 2) (by omega) hc).take_g (m := 2) (by omega)
        rw [if_neg hn2] at this
        simpa [Addr.add] using this
      have hr4 : Reads w w.heap.size 1 (some ⟨ad.block, ad.off + 4, none⟩) 4 (([b4, b5, b6, b7]).map (Value.int .u8)) := by
        have := (hr.cut (k := 4) (by omega) hc)
        rw [if_neg hn4] at this
        simpa [Addr.add] using this
      have hb2 : IsBytes [b2, b3] := fun x hx => hb x (by simp at hx ⊢; rcases hx with rfl | rfl <;> simp)
      have hb4 : IsBytes [b4, b5, b6, b7] := fun x hx => hb x (by simp at hx ⊢; rcases hx with rfl | rfl | rfl | rfl <;> simp)
      have G2 := getB_bd _ hb2
      have G4 := getB_bd _ hb4
      obtain ⟨v2, hv2⟩ : ∃ v, getB [b2, b3] = v := ⟨_, rfl⟩
      obtain ⟨v4, hv4⟩ : ∃ v, getB [b4, b5, b6, b7] = v := ⟨_, rfl⟩
      rw [hv2] at G2
      rw [hv4] at G4
      have g20 := G2.1
      have g21 : v2 < 65536 := by simpa using G2.2
      have g40 := G4.1
      have g41 : v4 < 4294967296 := by simpa using G4.2
      have HV2 := hide hv2
      have HV4 := hide hv4
      obtain ⟨c0, c1⟩ := B0
      obtain ⟨d0, d1⟩ := B1
      have HG2 := hide (fun W (h : Reads W w.heap.size 1 (some ⟨ad.block, ad.off + 2, none⟩) 2 (([b2, b3]).map (Value.int .u8))) =>
        (rget_any [b2, b3] w.heap.size _ 2 (c - 2) W rfl h hb2 (by omega)).mono fun e w' ⟨he, hw⟩ => ⟨by rw [he, hv2], hw⟩ : ∀ W, Reads W w.heap.size 1 (some ⟨ad.block, ad.off + 2, none⟩) 2 (([b2, b3]).map (Value.int .u8)) → Calls Try.prog 41 #[.slice (some ⟨ad.block, ad.off + 2, none⟩) 2 (c - 2)] W fun e w' => e = .returned (.int .u64 v2) ∧ W = w')
      have HG4 := hide (fun W (h : Reads W w.heap.size 1 (some ⟨ad.block, ad.off + 4, none⟩) 4 (([b4, b5, b6, b7]).map (Value.int .u8))) =>
        (rget_any [b4, b5, b6, b7] w.heap.size _ 4 (c - 4) W rfl h hb4 (by omega)).mono fun e w' ⟨he, hw⟩ => ⟨by rw [he, hv4], hw⟩ : ∀ W, Reads W w.heap.size 1 (some ⟨ad.block, ad.off + 4, none⟩) 4 (([b4, b5, b6, b7]).map (Value.int .u8)) → Calls Try.prog 41 #[.slice (some ⟨ad.block, ad.off + 4, none⟩) 4 (c - 4)] W fun e w' => e = .returned (.int .u64 v4) ∧ W = w')
      obtain ⟨s2, hs2⟩ : ∃ v, sg16 v2 = v := ⟨_, rfl⟩
      obtain ⟨s4, hs4⟩ : ∃ v, sg32 v4 = v := ⟨_, rfl⟩
      obtain ⟨u2, hu2⟩ : ∃ v, uOf s2 = v := ⟨_, rfl⟩
      obtain ⟨u4, hu4⟩ : ∃ v, uOf s4 = v := ⟨_, rfl⟩
      have HSG2 := hide (fun W => by have := rsign_16 v2 W g20 g21; rw [hs2, hu2] at this; exact this : ∀ W, Calls Try.prog 40 #[.int .u64 v2, .int .i8 16] W fun e w' => e = .returned (.int .u64 u2) ∧ W = w')
      have HSG4 := hide (fun W => by have := rsign_32 v4 W g40 g41; rw [hs4, hu4] at this; exact this : ∀ W, Calls Try.prog 40 #[.int .u64 v4, .int .i8 32] W fun e w' => e = .returned (.int .u64 u4) ∧ W = w')
      have hs2b : -32768 ≤ s2 ∧ s2 ≤ 32767 := by rw [← hs2]; unfold sg16; omega
      have hs4b : -2147483648 ≤ s4 ∧ s4 ≤ 2147483647 := by rw [← hs4]; unfold sg32; omega
      have HW2 := hide (by rw [← hu2, IntKind.wrap_i64]; unfold uOf; omega : IntKind.i64.wrap u2 = s2)
      have HW4 := hide (by rw [← hu4, IntKind.wrap_i64]; unfold uOf; omega : IntKind.i64.wrap u4 = s4)
      obtain ⟨s20, s21⟩ := hs2b
      obtain ⟨s40, s41⟩ := hs4b
      have HS2 := hide hs2
      have HS4 := hide hs4
      obtain ⟨m1, rfl⟩ := Int.eq_ofNat_of_zero_le d0
      obtain ⟨bn, rfl⟩ := Int.eq_ofNat_of_zero_le c0
      have hbn : bn < 256 := by omega
      obtain ⟨X, hX⟩ : ∃ X, rdX [(bn : Int), (m1 : Int), b2, b3, b4, b5, b6, b7] = X := ⟨_, rfl⟩
      have HXX := hide hX
      have HXD := hide (by
        rw [← HXX.out, ← HS2.out, ← HS4.out, ← HV2.out, ← HV4.out]
        rfl : X = (if (bn : Int) < 64 then ⟨0, (bn : Int) % 16, if (bn : Int) % 64 / 32 = 1 then 32 else 64, 0, (bn : Int) % 32 / 16 == 1, (m1 : Int) % 16, (m1 : Int) / 16, s2, s4⟩
            else if (bn : Int) < 68 then ⟨1, 0, 0, szOf ((bn : Int) - 64), false, (m1 : Int) % 16, (m1 : Int) / 16, s2, s4⟩
            else if (bn : Int) < 76 then ⟨2, 0, 0, szOf ((bn : Int) - 72), false, (m1 : Int) % 16, (m1 : Int) / 16, s2, s4⟩
            else if (bn : Int) < 112 ∧ (bn : Int) % 16 ≤ 10 then ⟨3, (bn : Int) % 16, 0, 0, decide (96 ≤ (bn : Int)), (m1 : Int) % 16, (m1 : Int) / 16, s2, s4⟩
            else ⟨4 + ((bn : Int) - 111), 0, 0, 0, false, (m1 : Int) % 16, (m1 : Int) / 16, s2, s4⟩))
      have HR := hide hr
      have HR2 := hide hr2
      have HR4 := hide hr4
      have e15 := j_15 ⟨bn, hbn⟩
      dsimp only at e15
      clear hr hr2 hr4 hb2 hb4 hb G2 G4 hv2 hv4 hl hm hX hs2 hs4 hu2 hu4 hcell
      have hw15 : IntKind.i8.wrap ((bn : Int) % 16) = (bn : Int) % 16 := by simp [IntKind.wrap, IntKind.signed, IntKind.bits]; omega
      go_enter Try.func25, Try.ntmps25
      go_upto_block 0 with fail
      go_cut [] (fun wd => wd = (w.alloc (.cells #[.int .i8 0, .int .i8 0, .int .i8 0, .int .i8 0, .bool false, .int .i8 0, .int .i8 0, .int .i64 0, .int .i64 0] 32)).alloc (.cells #[.int .i8 X.kind, .int .i8 X.op, .int .i8 X.width, .int .i8 X.size, .bool X.byReg, .int .i8 0, .int .i8 0, .int .i64 0, .int .i64 0] 32) ∧ rdOp bn = true)
      case first =>
        have B64 : True := trivial
        by_cases h64 : (bn : Int) < 64
        · have hby := j_by ⟨bn, by omega⟩
          dsimp only at hby
          by_cases h32 : (bn : Int) < 32
          · have HXA := hide (by rw [HXD.out, if_pos h64, if_neg (by omega)] : X = ⟨0, (bn : Int) % 16, 64, 0, (bn : Int) % 32 / 16 == 1, (m1 : Int) % 16, (m1 : Int) / 16, s2, s4⟩)
            have b32 : decide (32 ≤ (bn : Int)) = false := by simp; omega
            go_wp2_with fail
            go_meet
            exact ⟨by rw [HXA.out], by unfold rdOp; simp <;> omega⟩
          · have HXA := hide (by rw [HXD.out, if_pos h64, if_pos (by omega)] : X = ⟨0, (bn : Int) % 16, 32, 0, (bn : Int) % 32 / 16 == 1, (m1 : Int) % 16, (m1 : Int) / 16, s2, s4⟩)
            have b32 : decide (32 ≤ (bn : Int)) = true := by simp; omega
            go_wp2_with fail
            go_meet
            exact ⟨by rw [HXA.out], by unfold rdOp; simp <;> omega⟩
        · by_cases h68 : (bn : Int) < 68
          · rcases (by omega : bn = 64 ∨ bn = 65 ∨ bn = 66 ∨ bn = 67) with rfl | rfl | rfl | rfl
            · have HXA := hide (by rw [HXD.out]; rfl : X = ⟨1, 0, 0, 1, false, (m1 : Int) % 16, (m1 : Int) / 16, s2, s4⟩)
              go_wp2_with fail
              go_meet
              exact ⟨by rw [HXA.out], by unfold rdOp; simp <;> omega⟩
            · have HXA := hide (by rw [HXD.out]; rfl : X = ⟨1, 0, 0, 2, false, (m1 : Int) % 16, (m1 : Int) / 16, s2, s4⟩)
              go_wp2_with fail
              go_meet
              exact ⟨by rw [HXA.out], by unfold rdOp; simp <;> omega⟩
            · have HXA := hide (by rw [HXD.out]; rfl : X = ⟨1, 0, 0, 4, false, (m1 : Int) % 16, (m1 : Int) / 16, s2, s4⟩)
              go_wp2_with fail
              go_meet
              exact ⟨by rw [HXA.out], by unfold rdOp; simp <;> omega⟩
            · have HXA := hide (by rw [HXD.out]; rfl : X = ⟨1, 0, 0, 8, false, (m1 : Int) % 16, (m1 : Int) / 16, s2, s4⟩)
              go_wp2_with fail
              go_meet
              exact ⟨by rw [HXA.out], by unfold rdOp; simp <;> omega⟩
          · by_cases h72 : (bn : Int) < 72
            · have HBD := hide (rd_bad rfl (by unfold rdOk rdOp; simp; intros; omega : rdOk [(bn : Int), (m1 : Int), b2, b3, b4, b5, b6, b7] = false))
              have b111 : ((bn : Int) == 111) = false := by rw [beq_eq_false_iff_ne]; omega
              have b112 : ((bn : Int) == 112) = false := by rw [beq_eq_false_iff_ne]; omega
              have b113 : ((bn : Int) == 113) = false := by rw [beq_eq_false_iff_ne]; omega
              have b72 : decide (72 ≤ (bn : Int)) = false := by simp; omega
              have b80 : decide (80 ≤ (bn : Int)) = false := by simp; omega
              go_wp2_with fail
              refine bodyPost_ret (v := .tuple #[.agg (kz 0).cells.toArray, .int .i64 31]) (by simp [results, Try.results25, go_sem, kz, ID.cells]) rfl ⟨?_, ((Below.refl _ _).alloc (Nat.le_refl _) _).alloc (le_alloc _ (Nat.le_refl _)) _⟩
              rw [HBD.out.1, HBD.out.2]
            · by_cases h76 : (bn : Int) < 76
              · rcases (by omega : bn = 72 ∨ bn = 73 ∨ bn = 74 ∨ bn = 75) with rfl | rfl | rfl | rfl
                · have HXA := hide (by rw [HXD.out]; rfl : X = ⟨2, 0, 0, 1, false, (m1 : Int) % 16, (m1 : Int) / 16, s2, s4⟩)
                  go_wp2_with fail
                  go_meet
                  exact ⟨by rw [HXA.out], by unfold rdOp; simp <;> omega⟩
                · have HXA := hide (by rw [HXD.out]; rfl : X = ⟨2, 0, 0, 2, false, (m1 : Int) % 16, (m1 : Int) / 16, s2, s4⟩)
                  go_wp2_with fail
                  go_meet
                  exact ⟨by rw [HXA.out], by unfold rdOp; simp <;> omega⟩
                · have HXA := hide (by rw [HXD.out]; rfl : X = ⟨2, 0, 0, 4, false, (m1 : Int) % 16, (m1 : Int) / 16, s2, s4⟩)
                  go_wp2_with fail
                  go_meet
                  exact ⟨by rw [HXA.out], by unfold rdOp; simp <;> omega⟩
                · have HXA := hide (by rw [HXD.out]; rfl : X = ⟨2, 0, 0, 8, false, (m1 : Int) % 16, (m1 : Int) / 16, s2, s4⟩)
                  go_wp2_with fail
                  go_meet
                  exact ⟨by rw [HXA.out], by unfold rdOp; simp <;> omega⟩
              · by_cases h80 : (bn : Int) < 80
                · have HBD := hide (rd_bad rfl (by unfold rdOk rdOp; simp; intros; omega : rdOk [(bn : Int), (m1 : Int), b2, b3, b4, b5, b6, b7] = false))
                  have b111 : ((bn : Int) == 111) = false := by rw [beq_eq_false_iff_ne]; omega
                  have b112 : ((bn : Int) == 112) = false := by rw [beq_eq_false_iff_ne]; omega
                  have b113 : ((bn : Int) == 113) = false := by rw [beq_eq_false_iff_ne]; omega
                  have b72 : decide (72 ≤ (bn : Int)) = true := by simp; omega
                  have b76 : decide ((bn : Int) < 76) = false := by simp; omega
                  have b80 : decide (80 ≤ (bn : Int)) = false := by simp; omega
                  go_wp2_with fail
                  refine bodyPost_ret (v := .tuple #[.agg (kz 0).cells.toArray, .int .i64 31]) (by simp [results, Try.results25, go_sem, kz, ID.cells]) rfl ⟨?_, ((Below.refl _ _).alloc (Nat.le_refl _) _).alloc (le_alloc _ (Nat.le_refl _)) _⟩
                  rw [HBD.out.1, HBD.out.2]
                · by_cases h107 : (bn : Int) < 107
                  · by_cases h10 : (bn : Int) % 16 ≤ 10
                    · have b72 : decide (72 ≤ (bn : Int)) = true := by simp; omega
                      have b76 : decide ((bn : Int) < 76) = false := by simp; omega
                      have b80 : decide (80 ≤ (bn : Int)) = true := by simp; omega
                      have b107 : decide ((bn : Int) < 107) = true := by simp; omega
                      have b10 : decide ((bn : Int) % 16 ≤ 10) = true := by simp; omega
                      by_cases h96 : (bn : Int) < 96
                      · have HXA := hide (by rw [HXD.out, if_neg (by omega), if_neg (by omega), if_neg (by omega), if_pos (by omega), decide_eq_false (by omega)] : X = ⟨3, (bn : Int) % 16, 0, 0, false, (m1 : Int) % 16, (m1 : Int) / 16, s2, s4⟩)
                        have b96 : decide (96 ≤ (bn : Int)) = false := by simp; omega
                        go_wp2_with fail
                        go_meet
                        exact ⟨by rw [HXA.out], by unfold rdOp; simp <;> omega⟩
                      · have HXA := hide (by rw [HXD.out, if_neg (by omega), if_neg (by omega), if_neg (by omega), if_pos (by omega), decide_eq_true (by omega)] : X = ⟨3, (bn : Int) % 16, 0, 0, true, (m1 : Int) % 16, (m1 : Int) / 16, s2, s4⟩)
                        have b96 : decide (96 ≤ (bn : Int)) = true := by simp; omega
                        go_wp2_with fail
                        go_meet
                        exact ⟨by rw [HXA.out], by unfold rdOp; simp <;> omega⟩
                    · have HBD := hide (rd_bad rfl (by unfold rdOk rdOp; simp; intros; omega : rdOk [(bn : Int), (m1 : Int), b2, b3, b4, b5, b6, b7] = false))
                      have b111 : ((bn : Int) == 111) = false := by rw [beq_eq_false_iff_ne]; omega
                      have b112 : ((bn : Int) == 112) = false := by rw [beq_eq_false_iff_ne]; omega
                      have b113 : ((bn : Int) == 113) = false := by rw [beq_eq_false_iff_ne]; omega
                      have b72 : decide (72 ≤ (bn : Int)) = true := by simp; omega
                      have b76 : decide ((bn : Int) < 76) = false := by simp; omega
                      have b80 : decide (80 ≤ (bn : Int)) = true := by simp; omega
                      have b107 : decide ((bn : Int) < 107) = true := by simp; omega
                      have b10 : decide ((bn : Int) % 16 ≤ 10) = false := by simp; omega
                      go_wp2_with fail
                      refine bodyPost_ret (v := .tuple #[.agg (kz 0).cells.toArray, .int .i64 31]) (by simp [results, Try.results25, go_sem, kz, ID.cells]) rfl ⟨?_, ((Below.refl _ _).alloc (Nat.le_refl _) _).alloc (le_alloc _ (Nat.le_refl _)) _⟩
                      rw [HBD.out.1, HBD.out.2]
                  · have b72 : decide (72 ≤ (bn : Int)) = true := by simp; omega
                    have b76 : decide ((bn : Int) < 76) = false := by simp; omega
                    have b80 : decide (80 ≤ (bn : Int)) = true := by simp; omega
                    by_cases h111 : (bn : Int) < 111
                    · have HBD := hide (rd_bad rfl (by unfold rdOk rdOp; simp; intros; omega : rdOk [(bn : Int), (m1 : Int), b2, b3, b4, b5, b6, b7] = false))
                      have b111 : ((bn : Int) == 111) = false := by rw [beq_eq_false_iff_ne]; omega
                      have b112 : ((bn : Int) == 112) = false := by rw [beq_eq_false_iff_ne]; omega
                      have b113 : ((bn : Int) == 113) = false := by rw [beq_eq_false_iff_ne]; omega
                      have b107 : decide ((bn : Int) < 107) = false := by simp; omega
                      go_wp2_with fail
                      refine bodyPost_ret (v := .tuple #[.agg (kz 0).cells.toArray, .int .i64 31]) (by simp [results, Try.results25, go_sem, kz, ID.cells]) rfl ⟨?_, ((Below.refl _ _).alloc (Nat.le_refl _) _).alloc (le_alloc _ (Nat.le_refl _)) _⟩
                      rw [HBD.out.1, HBD.out.2]
                    · by_cases h113 : (bn : Int) ≤ 113
                      · rcases (by omega : bn = 111 ∨ bn = 112 ∨ bn = 113) with rfl | rfl | rfl
                        · have HXA := hide (by rw [HXD.out]; rfl : X = ⟨4, 0, 0, 0, false, (m1 : Int) % 16, (m1 : Int) / 16, s2, s4⟩)
                          go_wp2_with fail
                          go_meet
                          exact ⟨by rw [HXA.out], by unfold rdOp; simp <;> omega⟩
                        · have HXA := hide (by rw [HXD.out]; rfl : X = ⟨5, 0, 0, 0, false, (m1 : Int) % 16, (m1 : Int) / 16, s2, s4⟩)
                          go_wp2_with fail
                          go_meet
                          exact ⟨by rw [HXA.out], by unfold rdOp; simp <;> omega⟩
                        · have HXA := hide (by rw [HXD.out]; rfl : X = ⟨6, 0, 0, 0, false, (m1 : Int) % 16, (m1 : Int) / 16, s2, s4⟩)
                          go_wp2_with fail
                          go_meet
                          exact ⟨by rw [HXA.out], by unfold rdOp; simp <;> omega⟩
                      · have HBD := hide (rd_bad rfl (by unfold rdOk rdOp; simp; intros; omega : rdOk [(bn : Int), (m1 : Int), b2, b3, b4, b5, b6, b7] = false))
                        have b111 : ((bn : Int) == 111) = false := by rw [beq_eq_false_iff_ne]; omega
                        have b112 : ((bn : Int) == 112) = false := by rw [beq_eq_false_iff_ne]; omega
                        have b113 : ((bn : Int) == 113) = false := by rw [beq_eq_false_iff_ne]; omega
                        have b107 : decide ((bn : Int) < 107) = false := by simp; omega
                        go_wp2_with fail
                        refine bodyPost_ret (v := .tuple #[.agg (kz 0).cells.toArray, .int .i64 31]) (by simp [results, Try.results25, go_sem, kz, ID.cells]) rfl ⟨?_, ((Below.refl _ _).alloc (Nat.le_refl _) _).alloc (le_alloc _ (Nat.le_refl _)) _⟩
                        rw [HBD.out.1, HBD.out.2]
      case rest =>
        obtain ⟨hwd, hop⟩ := hcut
        have HN := hide (show Blk wc (w.heap.size + 1) 32 #[.int .i8 X.kind, .int .i8 X.op, .int .i8 X.width, .int .i8 X.size, .bool X.byReg, .int .i8 0, .int .i8 0, .int .i64 0, .int .i64 0] by
          rw [hwd]
          have := Blk.new (w.alloc (.cells #[.int .i8 0, .int .i8 0, .int .i8 0, .int .i8 0, .bool false, .int .i8 0, .int .i8 0, .int .i64 0, .int .i64 0] 32)) 32 #[.int .i8 X.kind, .int .i8 X.op, .int .i8 X.width, .int .i8 X.size, .bool X.byReg, .int .i8 0, .int .i8 0, .int .i64 0, .int .i64 0]
          simpa using this)
        have HRS := hide (show Blk wc w.heap.size 32 #[.int .i8 0, .int .i8 0, .int .i8 0, .int .i8 0, .bool false, .int .i8 0, .int .i8 0, .int .i64 0, .int .i64 0] by rw [hwd]; exact (Blk.new w _ _).alloc _)
        have HBW := hide (show Below w.heap.size w wc by rw [hwd]; exact ((Below.refl _ _).alloc (Nat.le_refl _) _).alloc (le_alloc _ (Nat.le_refl _)) _)
        have hR1 : Reads wc w.heap.size 1 (some ad) 8 (([(bn : Int), (m1 : Int), b2, b3, b4, b5, b6, b7]).map (Value.int .u8)) := by rw [hwd]; exact (HR.out.alloc (Nat.le_refl _) _).alloc (le_alloc _ (Nat.le_refl _)) _
        have HR2' := hide (show Reads wc w.heap.size 1 (some ⟨ad.block, ad.off + 2, none⟩) 2 (([b2, b3]).map (Value.int .u8)) by rw [hwd]; exact (HR2.out.alloc (Nat.le_refl _) _).alloc (le_alloc _ (Nat.le_refl _)) _)
        have HR4' := hide (show Reads wc w.heap.size 1 (some ⟨ad.block, ad.off + 4, none⟩) 4 (([b4, b5, b6, b7]).map (Value.int .u8)) by rw [hwd]; exact (HR4.out.alloc (Nat.le_refl _) _).alloc (le_alloc _ (Nat.le_refl _)) _)
        have q1 : wc.cell? ⟨ad.block, ad.off + 1, none⟩ = some (.int .u8 (m1 : Int)) := by
          obtain ⟨ad', e, _, hcl⟩ := hR1.2 (by omega)
          injection e with e
          subst e
          simpa [Addr.add] using hcl 1 (.int .u8 (m1 : Int)) rfl
        have hXw : X.wf := by
          have hx := HXD.out
          have hs := sz_bd (bn : Int)
          unfold rdOp at hop
          simp at hop
          unfold ID.wf I8 I64
          split at hx
          · subst hx; dsimp only; split <;> omega
          · split at hx
            · subst hx; dsimp only; omega
            · split at hx
              · subst hx; dsimp only; omega
              · split at hx
                · subst hx; dsimp only; omega
                · subst hx; dsimp only; omega
        have hok : rdOk [(bn : Int), (m1 : Int), b2, b3, b4, b5, b6, b7] = mayB X := by
          unfold rdOk
          rw [HXX.out]
          show ((8 : Nat) == 8 && (rdOp (bn : Int) && mayB X)) = mayB X
          rw [hop]
          simp
        have hfl : X.dst = (m1 : Int) % 16 ∧ X.src = (m1 : Int) / 16 ∧ X.off = s2 ∧ X.imm = s4 := by
          rw [HXD.out]
          repeat' split
          all_goals exact ⟨rfl, rfl, rfl, rfl⟩
        have HFL := hide hfl
        have HOK := hide hok
        have HXW := hide hXw
        have x5 : wc.cell? ⟨w.heap.size + 1, 5, none⟩ = some (.int .i8 0) := HN.out.cell 5
        have x6 : wc.cell? ⟨w.heap.size + 1, 6, none⟩ = some (.int .i8 0) := HN.out.cell 6
        have x7 : wc.cell? ⟨w.heap.size + 1, 7, none⟩ = some (.int .i64 0) := HN.out.cell 7
        have x8 : wc.cell? ⟨w.heap.size + 1, 8, none⟩ = some (.int .i64 0) := HN.out.cell 8
        have f5 := HN.out.frozen 5
        have f6 := HN.out.frozen 6
        have f7 := HN.out.frozen 7
        have f8 := HN.out.frozen 8
        have hle1 : w.heap.size ≤ w.heap.size + 1 := Nat.le_succ _
        have ha15 := u8_and15 m1 (by omega)
        have hw1 : IntKind.i8.wrap ((m1 : Int) % 16) = (m1 : Int) % 16 := by simp [IntKind.wrap, IntKind.signed, IntKind.bits]; omega
        have hw2 : IntKind.i8.wrap ((m1 : Int) / 16) = (m1 : Int) / 16 := by simp [IntKind.wrap, IntKind.signed, IntKind.bits]; omega
        have hne1 : ad.block ≠ w.heap.size + 1 := by omega
        have hne2 : w.heap.size + 1 ≠ ad.block := by omega
        have hc2i : (2 : Int) ≤ (c : Int) := by omega
        have hc4i : (4 : Int) ≤ (c : Int) := by omega
        clear hwd hop hXw hok hfl hR1 HR2 HR4
        go_wp2_with fail
        refine (HG2.out _ ((HR2'.out.setCell hle1 _).setCell hle1 _)).mono ?_
        rintro e w' ⟨rfl, rfl⟩
        go_wp2_with fail
        refine (HSG2.out _).mono ?_
        rintro e w' ⟨rfl, rfl⟩
        have k2 := HW2.out
        go_wp2_with fail
        refine (HG4.out _ (((HR4'.out.setCell hle1 _).setCell hle1 _).setCell hle1 _)).mono ?_
        rintro e w' ⟨rfl, rfl⟩
        go_wp2_with fail
        refine (HSG4.out _).mono ?_
        rintro e w' ⟨rfl, rfl⟩
        have k4 := HW4.out
        have BX := (((HN.out.set_ 5 (.int .i8 ((m1 : Int) % 16))).set_ 6 (.int .i8 ((m1 : Int) / 16))).set_ 7 (.int .i64 s2)).set_ 8 (.int .i64 s4)
        have HNX := hide (show Blk ((((wc.setCell ⟨w.heap.size + 1, 5, none⟩ (.int .i8 ((m1 : Int) % 16))).setCell ⟨w.heap.size + 1, 6, none⟩ (.int .i8 ((m1 : Int) / 16))).setCell ⟨w.heap.size + 1, 7, none⟩ (.int .i64 s2)).setCell ⟨w.heap.size + 1, 8, none⟩ (.int .i64 s4)) (w.heap.size + 1) 32 X.cells.toArray by
          have := BX
          unfold ID.cells
          rw [HFL.out.1, HFL.out.2.1, HFL.out.2.2.1, HFL.out.2.2.2]
          simpa using this)
        have hne3 : w.heap.size ≠ w.heap.size + 1 := by omega
        have HRX := hide ((((HRS.out.far (p := ⟨w.heap.size + 1, 5, none⟩) hne3 (.int .i8 ((m1 : Int) % 16))).far (p := ⟨w.heap.size + 1, 6, none⟩) hne3 (.int .i8 ((m1 : Int) / 16))).far (p := ⟨w.heap.size + 1, 7, none⟩) hne3 (.int .i64 s2)).far (p := ⟨w.heap.size + 1, 8, none⟩) hne3 (.int .i64 s4))
        have HBX := hide ((((HBW.out.setCell (p := ⟨w.heap.size + 1, 5, none⟩) hle1 (.int .i8 ((m1 : Int) % 16))).setCell (p := ⟨w.heap.size + 1, 6, none⟩) hle1 (.int .i8 ((m1 : Int) / 16))).setCell (p := ⟨w.heap.size + 1, 7, none⟩) hle1 (.int .i64 s2)).setCell (p := ⟨w.heap.size + 1, 8, none⟩) hle1 (.int .i64 s4))
        clear BX
        go_wp2_with (first
          | (refine wpList_load_at rfl 32 (.tmp 4) rfl ⟨w.heap.size + 1, 0, none⟩ rfl X.cells _ (blk_list HNX.out) Try.underlying32 rfl sizI ?_)
          | fail)
        refine (rmay_any X _ HXW.out).mono ?_
        rintro e w7 ⟨rfl, hb⟩
        have HN7 := hide (HNX.out.below hb HNX.out.lt)
        have HR7 := hide (HRX.out.below hb HRX.out.lt)
        have HL7 := hide (HBX.out.trans (hb.mono HBX.out.size))
        clear hb x5 x6 x7 x8 f5 f6 f7 f8 q1 k2 k4 hw1 hw2 ha15 HNX HRX HBX HN HRS HBW
        cases hm : mayB X
        · have HBD := hide (rd_bad rfl (HOK.out.trans hm))
          clear hm
          go_wp2_with (refine wpList_store_at rfl 32 (.tmp 2) (.tmp 112) rfl w.heap.size 0 32 (kz 0).cells (kz 0).cells (.agg (kz 0).cells.toArray) HR7.out (by rfl) (by rfl) rfl sizI (by show 0 + 9 ≤ 9; omega) (kz 0).one ?_
                       intro w8 X8 G8 S8
                       have HE8 := hide (HL7.out.grown G8 HL7.out.size (fun g e => by injection e with e; omega))
                       have k0 := X8.cell 0
                       have k1 := X8.cell 1
                       have k2 := X8.cell 2
                       have k3 := X8.cell 3
                       have k4 := X8.cell 4
                       have k5 := X8.cell 5
                       have k6 := X8.cell 6
                       have k7 := X8.cell 7
                       have k8 := X8.cell 8
                       simp [overC, ID.cells, kz] at k0 k1 k2 k3 k4 k5 k6 k7 k8
                       clear X8 G8 S8)
          refine bodyPost_ret (v := .tuple #[.agg (kz 0).cells.toArray, .int .i64 31]) (by simp [results, Try.results25, go_sem, kz, ID.cells, k0, k1, k2, k3, k4, k5, k6, k7, k8]) rfl ⟨?_, HE8.out⟩
          rw [HBD.out.1, HBD.out.2]
        · have HM := hide hm
          clear hm
          go_wp2_with (first
            | (refine wpList_load_at rfl 32 (.tmp 4) rfl ⟨w.heap.size + 1, 0, none⟩ rfl X.cells _ (blk_list HN7.out) Try.underlying32 rfl sizI ?_)
            | (refine wpList_store_at rfl 32 (.tmp 2) (.tmp 113) rfl w.heap.size 0 32 (kz 0).cells X.cells (.agg X.cells.toArray) HR7.out (by rfl) (by rfl) rfl sizI (by show 0 + 9 ≤ 9; omega) X.one ?_
               intro w8 X8 G8 S8
               have HE8 := hide (HL7.out.grown G8 HL7.out.size (fun g e => by injection e with e; omega))
               have k0 := X8.cell 0
               have k1 := X8.cell 1
               have k2 := X8.cell 2
               have k3 := X8.cell 3
               have k4 := X8.cell 4
               have k5 := X8.cell 5
               have k6 := X8.cell 6
               have k7 := X8.cell 7
               have k8 := X8.cell 8
               simp [overC, ID.cells, kz] at k0 k1 k2 k3 k4 k5 k6 k7 k8
               clear X8 G8 S8))
          refine bodyPost_ret (v := .tuple #[.agg X.cells.toArray, .int .i64 0]) (by simp [results, Try.results25, go_sem, ID.cells, k0, k1, k2, k3, k4, k5, k6, k7, k8]) rfl ⟨?_, HE8.out⟩
          have hO : rdO [(bn : Int), (m1 : Int), b2, b3, b4, b5, b6, b7] = X := by unfold rdO; rw [HOK.out, HM.out, if_pos rfl, HXX.out]
          have hE : rdE [(bn : Int), (m1 : Int), b2, b3, b4, b5, b6, b7] = 0 := by unfold rdE; rw [HOK.out, HM.out, if_pos rfl]; rfl
          rw [hO, hE]
  · have hO : rdO b = kz 0 := by unfold rdO rdOk; rw [hl]; simp [h8]
    have hE : rdE b = 30 := by unfold rdE; rw [hl, if_neg h8]
    have hne : ((n : Int) != 8) = true := by simp; omega
    have HO := hide hO
    have HE := hide hE
    clear hO hE hr hb h8
    go_enter Try.func25, Try.ntmps25
    go_wp2
    refine bodyPost_ret (v := .tuple #[.agg (kz 0).cells.toArray, .int .i64 30]) (by simp [results, Try.results25, go_sem, kz, ID.cells]) rfl ⟨?_, (Below.refl _ _).alloc (Nat.le_refl _) _⟩
    rw [HO.out, HE.out]
end Go.Proofs.Ytopanomcbkhbnaa
