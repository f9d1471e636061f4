/-
  Whether blocks may be: blocks.May. Conditions: those written in each statement.
-/
import Derived.Test.YtbdofidapddgaaaBe
import Derived.Deep.DeepCutAuto
namespace Go.Proofs.Ytbdofidapddgaaa
open Go.RowKit
set_option linter.unusedVariables false
set_option linter.unusedSimpArgs false
structure MF (A : Option Addr) (n : Nat) (l : List BD) (w W : World) : Prop where
  blks : BksAt W w.heap.size A n l
  below : Below w.heap.size w W
theorem MF.step {A : Option Addr} {n : Nat} {l : List BD} {w W V : World} (h : MF A n l w W) (hb : Below W.heap.size W V) : MF A n l w V :=
  ⟨h.blks.below (hb.mono h.below.size), h.below.trans (hb.mono h.below.size)⟩
set_option maxRecDepth 100000 in
set_option maxHeartbeats 4000000 in
theorem bmay_any (A : Option Addr) (n c : Nat) (l : List BD) (w : World) (hh : BksAt w w.heap.size A n l) (hm : n < 9223372036854775808) :
    Calls Try.prog 16 #[.slice A n c] w (BoolP (mayL l) w) := by
  have HL := hide hh.len
  have HF := hide (⟨hh, Below.refl _ _⟩ : MF A n l w w)
  clear hh
  go_enter Try.func16, Try.ntmps16
  go_wp2
  go_step3
  go_wp2
  go_step3
  go_wp2
  go_loopg [3, 4, 11] n (fun g v ok i wr => ∃ k : Nat, g + k = n ∧ i = .int .i64 k ∧ v = .int .i64 (atK l k) ∧ ok = .bool true ∧ Hid (∀ j x, j < k → l[j]? = some x → mayAt l j x = true) ∧ MF A n l w wr)
  case atStart => exact ⟨0, by omega, rfl, rfl, rfl, fun j x h => by omega, HF.out⟩
  case round =>
    obtain ⟨k, hgk, rfl, rfl, rfl, HT, hf⟩ := hrel
    have hk : k ≤ n := by omega
    clear HF
    have HF := hide hf
    clear hf
    by_cases hlt : k < n
    · obtain ⟨ad, x, s, rfl, hab, hx, hxw, hns, hcell⟩ := HF.out.blks.at_ hlt
      have HX := hide hx
      have HSU := hide (atK_succ hx)
      obtain ⟨av, hav⟩ : ∃ v, atK l k = v := ⟨_, rfl⟩
      rw [hav]
      obtain ⟨fr, tt, nx⟩ := x
      dsimp only at HSU hns
      obtain ⟨As, cs, rfl⟩ := hns.form
      obtain ⟨m, hm2⟩ : ∃ v, nx.length = v := ⟨_, rfl⟩
      have HBS := hide (base_eq (fr := fr) (tt := tt) hav hm2)
      rw [hm2] at hns hcell
      have HS := hide hns
      have HM := hide hm2
      have hml : m < 9223372036854775808 := hns.len.2.2
      have HC := hide hcell
      clear hcell hxw hx hns hav hm2
      go_upto_region 6 with (refine wpList_load_at rfl 41 (.tmp 13) rfl (ad.add (k * 3)) (by rfl) [.int .i64 fr, .int .i64 tt, .slice As m cs] _ HC.out Try.underlying41 rfl sizB ?_)
      have X3 := Blk.new wr 41 #[.int .i64 fr, .int .i64 tt, .slice As m cs]
      have L3 : Below wr.heap.size wr (wr.alloc (.cells #[.int .i64 fr, .int .i64 tt, .slice As m cs] 41)) := (Below.refl _ _).alloc (Nat.le_refl _) _
      generalize wr.alloc (.cells #[.int .i64 fr, .int .i64 tt, .slice As m cs] 41) = w3 at X3 L3 ⊢
      have HF3 := hide (HF.out.step L3)
      have HS3 := hide (HS.out.below (L3.mono HF.out.below.size))
      have c0 : w3.cell? ⟨wr.heap.size, 0, none⟩ = some (.int .i64 fr) := X3.cell 0
      have c1 : w3.cell? ⟨wr.heap.size, 1, none⟩ = some (.int .i64 tt) := X3.cell 1
      have c2 : w3.cell? ⟨wr.heap.size, 2, none⟩ = some (.slice As m cs) := X3.cell 2
      clear X3 L3
      go_cut [4, 11] from 11 to 59 (fun ok i wc => ok = .bool (baseB l k ⟨fr, tt, nx⟩) ∧ i = .int .i64 k ∧ wc = w3)
      case first =>
        cases h0 : (fr == av)
        · go_wp2
          go_meet
          case rel => exact ⟨by rw [HBS.out, h0]; rfl, rfl, rfl⟩
        · cases h1 : decide (av < tt)
          · go_wp2
            go_meet
            case rel => exact ⟨by rw [HBS.out, h0, h1]; rfl, rfl, rfl⟩
          · cases h2 : decide (tt ≤ 64)
            · go_wp2
              go_meet
              case rel => exact ⟨by rw [HBS.out, h0, h1, h2]; rfl, rfl, rfl⟩
            · cases h3 : decide ((m : Int) ≤ 2)
              · go_wp2
                go_meet
                case rel => exact ⟨by rw [HBS.out, h0, h1, h2]; simp at h3; simp; omega, rfl, rfl⟩
              · go_wp2
                go_meet
                case rel => exact ⟨by rw [HBS.out, h0, h1, h2]; simp at h3; simp; omega, rfl, rfl⟩
      case rest =>
        obtain ⟨rfl, rfl, rfl⟩ := hcut
        have HMY := hide (show mayAt l k ⟨fr, tt, nx⟩ = (baseB l k ⟨fr, tt, nx⟩ && nx.all (inR l.length)) from rfl)
        obtain ⟨bb, hbb⟩ : ∃ v, baseB l k ⟨fr, tt, nx⟩ = v := ⟨_, rfl⟩
        rw [hbb] at HMY ⊢
        clear hbb HBS
        go_wp2_with fail
        go_loop [4, 41] (fun ok i => ∃ (j : Nat) (b : Bool), j ≤ m ∧ i = .int .i64 j ∧ ok = .bool b ∧ Hid (b = (bb && (nx.take j).all (inR l.length)))) (fun _ i => m - (intOf i).toNat)
        case atStart => exact ⟨0, bb, by omega, rfl, rfl, by simp [hide]⟩
        case round =>
          obtain ⟨j, b, hj, rfl, rfl, HJ⟩ := hrel
          by_cases hlj : j < m
          · obtain ⟨ad3, y, rfl, _, hy, hyi, hcy⟩ := HS3.out.at_ hlj
            have HAL := hide (all_take_succ (p := inR l.length) hy)
            clear hy hyi
            cases b
            · have HNX := hide (show false = (bb && (nx.take (j + 1)).all (inR l.length)) by rw [HAL.out, ← Bool.and_assoc, ← HJ.out]; rfl)
              go_wp2
              go_round
              case measure => simp [intOf]; omega
              case rel => exact ⟨j + 1, false, by omega, by go_num, rfl, HNX.out⟩
            · cases q0 : decide (0 ≤ y)
              · have HNX := hide (show false = (bb && (nx.take (j + 1)).all (inR l.length)) by rw [HAL.out, ← Bool.and_assoc, ← HJ.out]; unfold inR; rw [q0]; rfl)
                go_wp2
                go_round
                case measure => simp [intOf]; omega
                case rel => exact ⟨j + 1, false, by omega, by go_num, rfl, HNX.out⟩
              · cases q1 : decide (y < (n : Int))
                · have HNX := hide (show false = (bb && (nx.take (j + 1)).all (inR l.length)) by rw [HAL.out, ← Bool.and_assoc, ← HJ.out]; unfold inR; rw [q0, HL.out, q1]; rfl)
                  go_wp2
                  go_round
                  case measure => simp [intOf]; omega
                  case rel => exact ⟨j + 1, false, by omega, by go_num, rfl, HNX.out⟩
                · have HNX := hide (show true = (bb && (nx.take (j + 1)).all (inR l.length)) by rw [HAL.out, ← Bool.and_assoc, ← HJ.out]; unfold inR; rw [q0, HL.out, q1]; rfl)
                  go_wp2
                  go_round
                  case measure => simp [intOf]; omega
                  case rel => exact ⟨j + 1, true, by omega, by go_num, rfl, HNX.out⟩
          · obtain rfl : j = m := by omega
            have HB := hide (show mayAt l k ⟨fr, tt, nx⟩ = b by
              rw [HMY.out, HJ.out, List.take_of_length_le (by rw [HM.out]; exact Nat.le_refl _)])
            clear HJ HMY
            cases b
            · have HIN := hide (mayL_bad HX.out HB.out)
              go_wp2
              go_ret
              exact ⟨ret_bb HIN.out.symm, HF3.out.below⟩
            · cases gk with
              | zero => omega
              | succ g =>
                go_wp2
                go_roundg g
                case measure => omega
                case rel =>
                  refine ⟨k + 1, by omega, by go_num, by rw [HSU.out], rfl, fun i x hi hx => ?_, HF3.out⟩
                  rcases Nat.lt_or_ge i k with h | h
                  · exact HT.out i x h hx
                  · obtain rfl : i = k := by omega
                    rw [HX.out] at hx
                    exact Option.some.inj hx ▸ HB.out
    · obtain rfl : k = n := by omega
      have HIN := hide (mayL_good (l := l) (by rw [HL.out]; exact HT.out))
      go_wp2
      go_ret
      exact ⟨ret_bb HIN.out.symm, HF.out.below⟩
end Go.Proofs.Ytbdofidapddgaaa
