/-
  moves.Do: moves done one behind the other; the document's Same. Conditions: those written in each statement.
-/
import Derived.Test.YtdnibhcpbdjhlaaMq
namespace Go.Proofs.Ytdnibhcpbdjhlaa
open Go.RowKit
set_option linter.unusedVariables false
set_option linter.unusedSimpArgs false
def U64 (v : Int) : Prop := 0 ≤ v ∧ v < 18446744073709551616
def uC (R : List Int) : List Value := R.map (Value.int .u64)
theorem uC_one (R : List Int) : ∀ u ∈ uC R, u.oneCell' = true := by
  intro u hu
  unfold uC at hu
  obtain ⟨x, _, rfl⟩ := List.mem_map.1 hu
  rfl
def setR (R : List Int) (x : Mv) : List Int := if regB x.1 && regB x.2 then R.set x.1.toNat (R.getD x.2.toNat 0) else R
def doL : List Mv → List Int → List Int
  | [], R => R
  | x :: t, R => doL t (setR R x)
theorem doL_snoc : ∀ (l : List Mv) (x : Mv) (R : List Int), doL (l ++ [x]) R = setR (doL l R) x
  | [], x, R => rfl
  | y :: t, x, R => by rw [List.cons_append, doL, doL_snoc t x, doL]
theorem doL_take {l : List Mv} {k : Nat} {x : Mv} (h : l[k]? = some x) (R : List Int) : doL (l.take (k + 1)) R = setR (doL (l.take k) R) x := by
  rw [List.take_add_one, h, Option.toList_some, doL_snoc]
theorem setR_len (R : List Int) (x : Mv) : (setR R x).length = R.length := by unfold setR; split <;> simp
theorem doL_len : ∀ (l : List Mv) (R : List Int), (doL l R).length = R.length
  | [], R => rfl
  | x :: t, R => by rw [doL, doL_len t, setR_len]
theorem infU : (Try.prog.info? 25).map (·.size) = some 16 := by kernel_rfl
def DoP (l : List Mv) (R : List Int) (w : World) (e : Ending) (w' : World) : Prop := e = .returned (.agg (uC (doL l R)).toArray) ∧ Below w.heap.size w w'
structure DoF (A : Option Addr) (n : Nat) (l : List Mv) (R : List Int) (w W : World) : Prop where
  regs : Blk W w.heap.size 25 (uC R).toArray
  res : Blk W (w.heap.size + 1) 25 (uC (List.replicate 16 0)).toArray
  mvs : MvsAt W w.heap.size A n l
  below : Below w.heap.size w W
section
variable {A : Option Addr} {n : Nat} {l : List Mv} {R : List Int} {w W V : World}
theorem DoF.step (h : DoF A n l R w W) (hb : Below W.heap.size W V) : DoF A n l R w V :=
  ⟨h.regs.below hb h.regs.lt, h.res.below hb h.res.lt, h.mvs.below (hb.mono h.below.size), h.below.trans (hb.mono h.below.size)⟩
end
def DoRel (A : Option Addr) (n : Nat) (l : List Mv) (R : List Int) (w : World) (i : Value) (wr : World) : Prop := ∃ k : Nat, k ≤ n ∧ i = .int .i64 k ∧ DoF A n l (doL (l.take k) R) w wr
set_option maxRecDepth 100000 in
set_option maxHeartbeats 4000000 in
theorem do_any (A : Option Addr) (n c : Nat) (l : List Mv) (R : List Int) (w : World) (hh : MvsAt w w.heap.size A n l) (hR : R.length = 16) (hm : n < 9223372036854775807) :
    Calls Try.prog 10 #[.slice A n c, .agg (uC R).toArray] w (DoP l R w) := by
  have HL := hide hh.1
  have HH := hide hh
  have HR := hide hR
  clear hh hR
  go_enter Try.func10, Try.ntmps10
  go_wp2_with fail
  go_loopw [9] (fun i wr => DoRel A n l R w i wr) (fun i _ => n - (intOf i).toNat)
  case atStart =>
    refine ⟨0, by omega, rfl, ?_, ?_, (HH.out.alloc (Nat.le_refl _) _).alloc (le_alloc _ (Nat.le_refl _)) _, ((Below.refl _ _).alloc (Nat.le_refl _) _).alloc (le_alloc _ (Nat.le_refl _)) _⟩
    · exact (Blk.new w _ _).alloc _
    · have := Blk.new (w.alloc (.cells (uC R).toArray 25)) 25 (uC (List.replicate 16 0)).toArray
      rw [show (w.alloc (.cells (uC R).toArray 25)).heap.size = w.heap.size + 1 by simp] at this
      exact this
  case round =>
    obtain ⟨k, hk, rfl, hf⟩ := hrel
    have HF := hide hf
    clear hf
    have hlen : (doL (l.take k) R).length = 16 := by rw [doL_len, HR.out]
    have HLN := hide hlen
    clear hlen
    by_cases hlt : k < n
    · obtain ⟨ad, x, rfl, hab, hx, hxw, hcell⟩ := HF.out.mvs.at_ hlt
      have HC := hide hcell
      have HDT := hide (doL_take hx R)
      clear hx hcell hxw
      obtain ⟨x0, x1⟩ := x
      obtain ⟨Rk, hRk⟩ : ∃ v, doL (l.take k) R = v := ⟨_, rfl⟩
      rw [hRk] at HF HLN HDT
      clear hRk
      go_upto_region 4 with (refine wpList_load_at rfl 32 (.tmp 11) rfl (ad.add (k * 2)) rfl [.int .i8 x0, .int .i8 x1] _ HC.out Try.underlying32 rfl (by kernel_rfl) ?_)
      have X3 := Blk.new wr 32 #[.int .i8 x0, .int .i8 x1]
      have L3 : Below wr.heap.size wr (wr.alloc (.cells #[.int .i8 x0, .int .i8 x1] 32)) := (Below.refl _ _).alloc (Nat.le_refl _) _
      generalize wr.alloc (.cells #[.int .i8 x0, .int .i8 x1] 32) = w3 at X3 L3 ⊢
      have c30 : w3.cell? ⟨wr.heap.size, 0, none⟩ = some (.int .i8 x0) := X3.cell 0
      have c31 : w3.cell? ⟨wr.heap.size, 1, none⟩ = some (.int .i8 x1) := X3.cell 1
      have HF3 := hide (HF.out.step L3)
      clear X3 L3
      cases h0 : regB x0
      · have HST := hide (show setR Rk (x0, x1) = Rk by unfold setR; dsimp only; rw [h0]; rfl)
        go_wp2_with fail
        refine (register_any x0 _).mono ?_
        rintro e w' ⟨rfl, rfl⟩
        rw [h0]
        go_wp2
        go_roundw
        case measure => simp [intOf]; omega
        case rel => exact ⟨k + 1, by omega, by go_num, by rw [HDT.out, HST.out]; exact HF3.out⟩
      · cases h1 : regB x1
        · have HST := hide (show setR Rk (x0, x1) = Rk by unfold setR; dsimp only; rw [h0, h1]; rfl)
          go_wp2_with fail
          refine (register_any x0 _).mono ?_
          rintro e w' ⟨rfl, rfl⟩
          rw [h0]
          go_wp2_with fail
          refine (register_any x1 _).mono ?_
          rintro e w' ⟨rfl, rfl⟩
          rw [h1]
          go_wp2
          go_roundw
          case measure => simp [intOf]; omega
          case rel => exact ⟨k + 1, by omega, by go_num, by rw [HDT.out, HST.out]; exact HF3.out⟩
        · have HST := hide (show setR Rk (x0, x1) = Rk.set x0.toNat (Rk.getD x1.toNat 0) by unfold setR; dsimp only; rw [h0, h1]; rfl)
          obtain ⟨r0, r1⟩ := regB_iff.1 h0
          obtain ⟨r2, r3⟩ := regB_iff.1 h1
          go_wp2_with fail
          refine (register_any x0 _).mono ?_
          rintro e w' ⟨rfl, rfl⟩
          rw [h0]
          go_wp2_with fail
          refine (register_any x1 _).mono ?_
          rintro e w' ⟨rfl, rfl⟩
          rw [h1]
          clear h0 h1
          obtain ⟨a, rfl⟩ := Int.eq_ofNat_of_zero_le r0
          obtain ⟨b, rfl⟩ := Int.eq_ofNat_of_zero_le r2
          have ha : a < 16 := by omega
          have hb : b < 16 := by omega
          obtain ⟨v, hv⟩ : ∃ v, Rk.getD b 0 = v := ⟨_, rfl⟩
          have cb : w3.cell? ⟨w.heap.size, b, none⟩ = some (.int .u64 v) := by
            rw [HF3.out.regs.cell b]
            have : b < Rk.length := by rw [HLN.out]; exact hb
            rw [← hv, List.getD_eq_getElem?_getD, List.getElem?_eq_getElem this]
            simp [uC, this]
          obtain ⟨va, ca⟩ : ∃ v, w3.cell? ⟨w.heap.size, a, none⟩ = some v := by
            rw [HF3.out.regs.cell a]
            have : a < Rk.length := by rw [HLN.out]; exact ha
            exact ⟨_, by simp [uC, this]; rfl⟩
          have fa := HF3.out.regs.frozen a
          have HV := hide hv
          clear hv
          go_wp2
          go_region
          all_goals
            go_wp2
            go_roundw
            case measure => simp [intOf]; omega
            case rel =>
              refine ⟨k + 1, by omega, by go_num, ?_⟩
              rw [HDT.out, HST.out]
              have hlt2 := HF3.out.regs.lt
              have hb3 := HF3.out.below
              refine ⟨?_, (HF3.out.res.far (p := ⟨w.heap.size, a, none⟩) (by simp) _).drew, ?_, (hb3.setCell (p := ⟨w.heap.size, a, none⟩) (Nat.le_refl _) _).drew⟩
              · have := (HF3.out.regs.set_ a (.int .u64 v)).drew
                have e : (uC Rk).toArray.setIfInBounds a (.int .u64 v) = (uC (Rk.set ((a : Int)).toNat (Rk.getD ((b : Int)).toNat 0))).toArray := by
                  rw [Int.toNat_natCast, Int.toNat_natCast, HV.out]
                  unfold uC
                  rw [List.map_set]
                  simp
                rw [← e]
                exact this
              · exact ⟨HF3.out.mvs.1, HF3.out.mvs.2.1, (HF3.out.mvs.2.2.setCell (p := ⟨w.heap.size, a, none⟩) (Nat.le_refl _) _).drew⟩
    · obtain rfl : k = n := by omega
      have ht : doL (l.take k) R = doL l R := by rw [List.take_of_length_le (by rw [HL.out]; exact Nat.le_refl _)]
      rw [ht] at HF HLN
      have hln : (uC (doL l R)).length = 16 := by unfold uC; rw [List.length_map]; exact HLN.out
      have HLN2 := hide hln
      clear hk hlt ht hln
      go_wp2_with (first
        | (refine wpList_load_at rfl 25 (.tmp 3) rfl ⟨w.heap.size, 0, none⟩ rfl (uC (doL l R)) _ (blk_list HF.out.regs) Try.underlying25 rfl (by rw [HLN2.out]; exact infU) ?_)
        | (refine wpList_store_at rfl 25 (.tmp 4) (.tmp 29) rfl (w.heap.size + 1) 0 25 (uC (List.replicate 16 0)) (uC (doL l R)) _ HF.out.res (by rfl) (by rfl) rfl (by rw [HLN2.out]; exact infU) (by rw [HLN2.out]; simp [uC]) (uC_one _) ?_
           intro w8 X8 G8 S8
           have HE8 := hide (HF.out.below.grown G8 HF.out.below.size (fun g e => by injection e with e; omega))
           have HX8 := hide X8
           clear X8 G8 S8))
      have hov : overC (uC (List.replicate 16 0)) 0 (uC (doL l R)) = uC (doL l R) := by
        unfold overC
        rw [List.take_zero, List.nil_append, Nat.zero_add, List.drop_of_length_le (by rw [HLN2.out]; simp [uC]), List.append_nil]
      have hx8 := HX8.out
      rw [hov] at hx8
      have hrl := run_loadVar_at (P := Try.prog) w8 ⟨w.heap.size + 1, 0, none⟩ 25 (uC (doL l R)) _ (blk_list hx8) Try.underlying25 rfl (by rw [HLN2.out]; exact infU)
      refine bodyPost_ret (v := .agg (uC (doL l R)).toArray) ?_ rfl ⟨rfl, HE8.out⟩
      simp [results, Try.results10, Act.put, asAddr, Result.andThen, hrl]
end Go.Proofs.Ytdnibhcpbdjhlaa
