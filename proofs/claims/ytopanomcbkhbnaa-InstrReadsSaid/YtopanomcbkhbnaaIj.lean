/-
  instr.Read: an instruction out of bytes. Conditions: those written in each statement.
-/
import Derived.Test.YtopanomcbkhbnaaIr
import Derived.Deep.RegionHeld3
import Derived.Deep.DeepCutAuto
import Derived.Deep.CutBlock
namespace Go.Proofs.Ytopanomcbkhbnaa
open Go.RowKit
set_option linter.unusedVariables false
set_option linter.unusedSimpArgs false
theorem IsBytes.take {l : List Int} (h : IsBytes l) (m : Nat) : IsBytes (l.take m) := fun x hx => h x (List.mem_of_mem_take hx)
theorem IsBytes.drop {l : List Int} (h : IsBytes l) (m : Nat) : IsBytes (l.drop m) := fun x hx => h x (List.mem_of_mem_drop hx)
def rdOk (b : List Int) : Bool := (b.length == 8) && (rdOp (b.getD 0 0) && mayB (rdX b))
def rdO (b : List Int) : ID := if rdOk b then rdX b else kz 0
def rdE (b : List Int) : Int := if b.length = 8 then (if rdOk b then 0 else 31) else 30
def ReadP (b : List Int) (w : World) (e : Ending) (w' : World) : Prop := e = .returned (.tuple #[.agg (rdO b).cells.toArray, .int .i64 (rdE b)]) ∧ Below w.heap.size w w'
theorem u8_and15 (n : Nat) (h : n < 256) : bits .and .u8 (n : Int) 15 = (n : Int) % 16 := by
  show IntKind.u8.wrap ((BitVec.ofInt 8 (n : Int) &&& BitVec.ofInt 8 ((15 : Nat) : Int)).toNat : Int) = _
  rw [BitVec.toNat_and, BitVec.ofInt_natCast, BitVec.ofInt_natCast, BitVec.toNat_ofNat, BitVec.toNat_ofNat, Nat.mod_eq_of_lt (by omega), IntKind.wrap_u8]
  rw [show (15 % 2 ^ 8) = 15 from rfl, show n &&& 15 = n % 16 from Nat.and_two_pow_sub_one_eq_mod n 4]
  omega
theorem u8_and16 : ∀ n : Fin 256, bits .and .u8 (n.val : Int) 16 = 16 * ((n.val : Int) / 16 % 2) := by decide +kernel
theorem u8_and32 : ∀ n : Fin 256, bits .and .u8 (n.val : Int) 32 = 32 * ((n.val : Int) / 32 % 2) := by decide +kernel
theorem a_wd : ∀ n : Fin 64, IntKind.i8.wrap (64 - IntKind.i8.wrap (bits .and .u8 (n.val : Int) 32)) = if (n.val : Int) % 64 / 32 = 1 then 32 else 64 := by decide +kernel
theorem a_by : ∀ n : Fin 64, (bits .and .u8 (n.val : Int) 16 != 0) = ((n.val : Int) % 32 / 16 == 1) := by decide +kernel
theorem a_15 : ∀ n : Fin 256, bits .and .u8 (n.val : Int) 15 = (n.val : Int) % 16 := by decide +kernel
theorem sz_bd (b : Int) : (1 ≤ szOf (b - 64) ∧ szOf (b - 64) ≤ 8) ∧ (1 ≤ szOf (b - 72) ∧ szOf (b - 72) ≤ 8) := by
  unfold szOf
  refine ⟨?_, ?_⟩ <;> (repeat' split) <;> omega
/-- What lies ready when the first byte is looked at. -/
structure RdF (d s o i b0 : Int) (ad : Addr) (gx : Nat) (cs : List Value) (w W : World) : Prop where
  new : Blk W gx 32 cs.toArray
  res : Blk W w.heap.size 32 #[.int .i8 0, .int .i8 0, .int .i8 0, .int .i8 0, .bool false, .int .i8 0, .int .i8 0, .int .i64 0, .int .i64 0]
  gt : w.heap.size < gx
  byte : W.cell? ad = some (.int .u8 b0)
  below : Below w.heap.size w W
/-- What lies ready behind the switch. -/
structure RdG (gx : Nat) (cs : List Value) (w W : World) : Prop where
  new : Blk W gx 32 cs.toArray
  res : Blk W w.heap.size 32 #[.int .i8 0, .int .i8 0, .int .i8 0, .int .i8 0, .bool false, .int .i8 0, .int .i8 0, .int .i64 0, .int .i64 0]
  gt : w.heap.size < gx
  below : Below w.heap.size w W
theorem rd_bad {b : List Int} (hl : b.length = 8) (h : rdOk b = false) : rdO b = kz 0 ∧ rdE b = 31 := by
  unfold rdO rdE
  rw [h, if_pos hl]
  exact ⟨rfl, rfl⟩
set_option maxRecDepth 100000 in
set_option maxHeartbeats 8000000 in
theorem read_any (b : List Int) (A : Option Addr) (n c : Nat) (w : World) (hl : b.length = n) (hr : Reads w w.heap.size 1 A n (b.map (Value.int .u8))) (hb : IsBytes b) (hc : n ≤ c) (hm : n < 9223372036854775808) :
    Calls Try.prog 24 #[.slice A n c] w (ReadP b w) := by
  by_cases h8 : n = 8
  · subst h8
    match b, hl with
    | [b0, b1, b2, b3, b4, b5, b6, b7], _ =>
      obtain ⟨ad, rfl, hab, hcell⟩ := hr.2 (by omega)
      have q0 : w.cell? ad = some (.int .u8 b0) := by have := hcell 0 (.int .u8 b0) rfl; rwa [show ad.add 0 = ad from rfl] at this
      have q1 : w.cell? ⟨ad.block, ad.off + 1, none⟩ = some (.int .u8 b1) := by simpa [Addr.add] using hcell 1 (.int .u8 b1) rfl
      have B0 := hb b0 (by simp)
      have B1 := hb b1 (by simp)
      have hn2 : ¬ c = 2 := by omega
      have hn4 : ¬ c = 4 := by omega
      have hr2 : Reads w w.heap.size 1 (some ⟨ad.block, ad.off + 2, none⟩) 2 (([b2, b3]).map (Value.int .u8)) := by
        have := (hr.cut (k := 2) (by omega) hc).take_g (m := 2) (by omega)
        rw [if_neg hn2] at this
        simpa [Addr.add] using this
      have hr4 : Reads w w.heap.size 1 (some ⟨ad.block, ad.off + 4, none⟩) 4 (([b4, b5, b6, b7]).map (Value.int .u8)) := by
        have := (hr.cut (k := 4) (by omega) hc)
        rw [if_neg hn4] at this
        simpa [Addr.add] using this
      have hb2 : IsBytes [b2, b3] := fun x hx => hb x (by simp at hx ⊢; rcases hx with rfl | rfl <;> simp)
      have hb4 : IsBytes [b4, b5, b6, b7] := fun x hx => hb x (by simp at hx ⊢; rcases hx with rfl | rfl | rfl | rfl <;> simp)
      have G2 := getB_bd _ hb2
      have G4 := getB_bd _ hb4
      have HR2 := hide hr2
      have HR4 := hide hr4
      have HB2 := hide hb2
      have HB4 := hide hb4
      have HB := hide hb
      obtain ⟨v2, hv2⟩ : ∃ v, getB [b2, b3] = v := ⟨_, rfl⟩
      obtain ⟨v4, hv4⟩ : ∃ v, getB [b4, b5, b6, b7] = v := ⟨_, rfl⟩
      rw [hv2] at G2
      rw [hv4] at G4
      have g20 := G2.1
      have g21 : v2 < 65536 := by simpa using G2.2
      have g40 := G4.1
      have g41 : v4 < 4294967296 := by simpa using G4.2
      have HV2 := hide hv2
      have HV4 := hide hv4
      obtain ⟨c0, c1⟩ := B0
      obtain ⟨d0, d1⟩ := B1
      clear hr hcell hr2 hr4 hb2 hb4 hb G2 G4 hv2 hv4 hl hm
      have hgc2 : ∀ W, Reads W w.heap.size 1 (some ⟨ad.block, ad.off + 2, none⟩) 2 (([b2, b3]).map (Value.int .u8)) → Calls Try.prog 38 #[.slice (some ⟨ad.block, ad.off + 2, none⟩) 2 (c - 2)] W fun e w' => e = .returned (.int .u64 v2) ∧ w' = W := fun W h =>
        (get_any [b2, b3] w.heap.size _ 2 (c - 2) W rfl h HB2.out (by omega)).mono fun e w' ⟨he, hw⟩ => ⟨by rw [he, HV2.out], hw.symm⟩
      have hgc4 : ∀ W, Reads W w.heap.size 1 (some ⟨ad.block, ad.off + 4, none⟩) 4 (([b4, b5, b6, b7]).map (Value.int .u8)) → Calls Try.prog 38 #[.slice (some ⟨ad.block, ad.off + 4, none⟩) 4 (c - 4)] W fun e w' => e = .returned (.int .u64 v4) ∧ w' = W := fun W h =>
        (get_any [b4, b5, b6, b7] w.heap.size _ 4 (c - 4) W rfl h HB4.out (by omega)).mono fun e w' ⟨he, hw⟩ => ⟨by rw [he, HV4.out], hw.symm⟩
      have HG2 := hide hgc2
      have HG4 := hide hgc4
      clear hgc2 hgc4
      obtain ⟨m1, rfl⟩ := Int.eq_ofNat_of_zero_le d0
      have ha15 := u8_and15 m1 (by omega)
      have q1' : (w.alloc (.cells #[.int .i8 0, .int .i8 0, .int .i8 0, .int .i8 0, .bool false, .int .i8 0, .int .i8 0, .int .i64 0, .int .i64 0] 32)).cell? ⟨ad.block, ad.off + 1, none⟩ = some (.int .u8 (m1 : Int)) := by
        rw [World.cell?_alloc_lt w _ ⟨ad.block, ad.off + 1, none⟩ hab]; exact q1
      have q0' : (w.alloc (.cells #[.int .i8 0, .int .i8 0, .int .i8 0, .int .i8 0, .bool false, .int .i8 0, .int .i8 0, .int .i64 0, .int .i64 0] 32)).cell? ad = some (.int .u8 b0) := by
        rw [World.cell?_alloc_lt w _ ad hab]; exact q0
      have HR2' := hide (HR2.out.alloc (Nat.le_refl _) (.cells #[.int .i8 0, .int .i8 0, .int .i8 0, .int .i8 0, .bool false, .int .i8 0, .int .i8 0, .int .i64 0, .int .i64 0] 32))
      have HR4' := hide (HR4.out.alloc (Nat.le_refl _) (.cells #[.int .i8 0, .int .i8 0, .int .i8 0, .int .i8 0, .bool false, .int .i8 0, .int .i8 0, .int .i64 0, .int .i64 0] 32))
      have hB1 := hide ((Below.refl w.heap.size w).alloc (Nat.le_refl _) (.cells #[.int .i8 0, .int .i8 0, .int .i8 0, .int .i8 0, .bool false, .int .i8 0, .int .i8 0, .int .i64 0, .int .i64 0] 32))
      have hX1 := hide (Blk.new w 32 #[.int .i8 0, .int .i8 0, .int .i8 0, .int .i8 0, .bool false, .int .i8 0, .int .i8 0, .int .i64 0, .int .i64 0])
      go_enter Try.func24, Try.ntmps24
      go_upto_region 3 with fail
      generalize (w.alloc (.cells #[.int .i8 0, .int .i8 0, .int .i8 0, .int .i8 0, .bool false, .int .i8 0, .int .i8 0, .int .i64 0, .int .i64 0] 32)) = w1 at q1' q0' HR2' HR4' hB1 hX1 ⊢
      clear q0 q1 HR2 HR4
      have hl1 := hX1.out.lt
      have hw1 : IntKind.i8.wrap ((m1 : Int) % 16) = (m1 : Int) % 16 := by simp [IntKind.wrap, IntKind.signed, IntKind.bits]; omega
      have hw2 : IntKind.i8.wrap ((m1 : Int) / 16) = (m1 : Int) / 16 := by simp [IntKind.wrap, IntKind.signed, IntKind.bits]; omega
      have hw3 : IntKind.i16.wrap v2 = sg16 v2 := by unfold sg16; simp [IntKind.wrap, IntKind.signed, IntKind.bits]; try omega
      have hw4 : IntKind.i32.wrap v4 = sg32 v4 := by unfold sg32; simp [IntKind.wrap, IntKind.signed, IntKind.bits]; try omega
      have hs2 : -32768 ≤ sg16 v2 ∧ sg16 v2 ≤ 32767 := by unfold sg16; omega
      have hs4 : -2147483648 ≤ sg32 v4 ∧ sg32 v4 ≤ 2147483647 := by unfold sg32; omega
      obtain ⟨s2, hs2'⟩ : ∃ v, sg16 v2 = v := ⟨_, rfl⟩
      obtain ⟨s4, hs4'⟩ : ∃ v, sg32 v4 = v := ⟨_, rfl⟩
      rw [hs2'] at hs2 hw3
      rw [hs4'] at hs4 hw4
      obtain ⟨s20, s21⟩ := hs2
      obtain ⟨s40, s41⟩ := hs4
      have hwi2 : IntKind.i64.wrap s2 = s2 := IntWalk.i64_in _ (by omega)
      have hwi4 : IntKind.i64.wrap s4 = s4 := IntWalk.i64_in _ (by omega)
      have HS2 := hide hs2'
      have HS4 := hide hs4'
      clear hs2' hs4'
      have HR2d := hide (show Reads w1.drew w.heap.size 1 _ 2 _ from HR2'.out.drew)
      have HR4d := hide (show Reads w1.drew w.heap.size 1 _ 4 _ from HR4'.out.drew)
      have hl1d : w.heap.size ≤ w1.drew.heap.size := Nat.le_of_lt hl1
      have hle1 : w.heap.size ≤ w1.heap.size := Nat.le_of_lt hl1
      have HR2e := hide (show ∀ o, Reads (w1.alloc o).drew w.heap.size 1 _ 2 _ from fun o => (HR2'.out.alloc hle1 o).drew)
      have HR4e := hide (show ∀ o, Reads (w1.alloc o).drew w.heap.size 1 _ 4 _ from fun o => (HR4'.out.alloc hle1 o).drew)
      have hc2i : (2 : Int) ≤ (c : Int) := by omega
      have hc4i : (4 : Int) ≤ (c : Int) := by omega
      go_cut [4] (fun v wc => ∃ gx, v = .pointer (some ⟨gx, 0, none⟩) ∧ RdF ((m1 : Int) % 16) ((m1 : Int) / 16) s2 s4 b0 ad gx [.int .i8 0, .int .i8 0, .int .i8 0, .int .i8 0, .bool false, .int .i8 ((m1 : Int) % 16), .int .i8 ((m1 : Int) / 16), .int .i64 s2, .int .i64 s4] w wc)
      case first =>
        go_region_held3 (fun w' => w'.cell? ⟨ad.block, ad.off + 1, none⟩ = some (.int .u8 (m1 : Int)))
          (first | exact q1' | exact (World.cell?_alloc_lt _ _ ⟨ad.block, ad.off + 1, none⟩ (Nat.lt_trans hab hl1)).trans q1')
          ((first
            | (go_at_call 38
               (with_reducible refine (HG2.out _ (by first | exact HR2d.out | exact HR2e.out _ | exact HR2'.out | exact HR2d.out.alloc hl1d _ | exact HR2'.out.alloc hle1 _)).mono ?_)
               rintro e wx ⟨rfl, rfl⟩)
            | (go_at_call 38
               (with_reducible refine (HG4.out _ (by first | exact HR4d.out | exact HR4e.out _ | exact HR4'.out | exact HR4d.out.alloc hl1d _ | exact HR4'.out.alloc hle1 _)).mono ?_)
               rintro e wx ⟨rfl, rfl⟩)))
        all_goals
          go_wp2_with fail
          go_meet
          refine ⟨_, rfl, ?_, ?_, hl1, ?_, ?_⟩
          · exact (by first | exact Blk.new w1 _ _ | exact (Blk.new w1 _ _).drew)
          · exact (by first | exact (hX1.out.alloc _) | exact (hX1.out.alloc _).drew | exact (hX1.out.drew.alloc _))
          · exact (by first | exact (World.cell?_alloc_lt _ _ ad (Nat.lt_trans hab hl1)).trans q0')
          · exact (by first | exact (hB1.out.alloc hle1 _) | exact (hB1.out.alloc hle1 _).drew | exact (hB1.out.drew.alloc hle1 _))
      case rest =>
        obtain ⟨gx, rfl, hf⟩ := hcut
        have HF := hide hf
        clear hf
        have q0 := HF.out.byte
        have n0 : wc.cell? ⟨gx, 0, none⟩ = some (.int .i8 0) := HF.out.new.cell 0
        have n1 : wc.cell? ⟨gx, 1, none⟩ = some (.int .i8 0) := HF.out.new.cell 1
        have n2 : wc.cell? ⟨gx, 2, none⟩ = some (.int .i8 0) := HF.out.new.cell 2
        have n3 : wc.cell? ⟨gx, 3, none⟩ = some (.int .i8 0) := HF.out.new.cell 3
        have n4 : wc.cell? ⟨gx, 4, none⟩ = some (.bool false) := HF.out.new.cell 4
        have f0 := HF.out.new.frozen 0
        have f1 := HF.out.new.frozen 1
        have f2 := HF.out.new.frozen 2
        have f3 := HF.out.new.frozen 3
        have f4 := HF.out.new.frozen 4
        obtain ⟨X, hX⟩ : ∃ X, rdX [b0, (m1 : Int), b2, b3, b4, b5, b6, b7] = X := ⟨_, rfl⟩
        have HXX := hide hX
        have hXd : X = (if b0 < 64 then ⟨0, b0 % 16, if b0 % 64 / 32 = 1 then 32 else 64, 0, b0 % 32 / 16 == 1, (m1 : Int) % 16, (m1 : Int) / 16, s2, s4⟩
            else if b0 < 68 then ⟨1, 0, 0, szOf (b0 - 64), false, (m1 : Int) % 16, (m1 : Int) / 16, s2, s4⟩
            else if b0 < 76 then ⟨2, 0, 0, szOf (b0 - 72), false, (m1 : Int) % 16, (m1 : Int) / 16, s2, s4⟩
            else if b0 < 112 ∧ b0 % 16 ≤ 10 then ⟨3, b0 % 16, 0, 0, decide (96 ≤ b0), (m1 : Int) % 16, (m1 : Int) / 16, s2, s4⟩
            else ⟨4 + (b0 - 111), 0, 0, 0, false, (m1 : Int) % 16, (m1 : Int) / 16, s2, s4⟩) := by
          rw [← HXX.out, ← HS2.out, ← HS4.out, ← HV2.out, ← HV4.out]
          rfl
        have HXD := hide hXd
        obtain ⟨bn, rfl⟩ := Int.eq_ofNat_of_zero_le c0
        have hbn : bn < 256 := by omega
        have e15 := a_15 ⟨bn, hbn⟩
        dsimp only at e15
        clear hX hXd q1' q0' HR2' HR4' hB1 hX1 HG2 HG4 HR2d HR4d HR2e HR4e hw1 hw2 hw3 hw4 ha15 hwi2 hwi4
        go_upto_block 0 with fail
        go_cut [] (fun wd => RdG gx X.cells w wd ∧ rdOp bn = true)
        case first =>
          by_cases h64 : (bn : Int) < 64
          · have hX : X = ⟨0, (bn : Int) % 16, if (bn : Int) % 64 / 32 = 1 then 32 else 64, 0, (bn : Int) % 32 / 16 == 1, (m1 : Int) % 16, (m1 : Int) / 16, s2, s4⟩ := by rw [HXD.out, if_pos h64]
            have HXA := hide hX
            have HWD := hide (a_wd ⟨bn, by omega⟩)
            have HBY := hide (a_by ⟨bn, by omega⟩)
            clear hX
            go_wp2_with fail
            go_meet
            refine ⟨⟨?_, ?_, HF.out.gt, ?_⟩, by unfold rdOp; simp <;> omega⟩
            · have BX := (((HF.out.new.set_ 0 (.int .i8 0)).set_ 1 (.int .i8 ((bn : Int) % 16))).set_ 2 (.int .i8 (IntKind.i8.wrap (64 - IntKind.i8.wrap (bits .and .u8 (bn : Int) 32))))).set_ 4 (.bool (bits .and .u8 (bn : Int) 16 != 0))
              rw [HXA.out]
              unfold ID.cells
              dsimp only
              rw [← HWD.out, ← HBY.out]
              simpa using BX
            · exact (((HF.out.res.far (Nat.ne_of_lt HF.out.gt) _).far (Nat.ne_of_lt HF.out.gt) _).far (Nat.ne_of_lt HF.out.gt) _).far (Nat.ne_of_lt HF.out.gt) _
            · exact (((HF.out.below.setCell (Nat.le_of_lt HF.out.gt) _).setCell (Nat.le_of_lt HF.out.gt) _).setCell (Nat.le_of_lt HF.out.gt) _).setCell (Nat.le_of_lt HF.out.gt) _
          · have l64 : (64 : Int) ≤ bn := by omega
            by_cases h68 : (bn : Int) < 68
            · have h4 : bn = 64 ∨ bn = 65 ∨ bn = 66 ∨ bn = 67 := by omega
              rcases h4 with rfl | rfl | rfl | rfl
              · have hX : X = ⟨1, 0, 0, 1, false, (m1 : Int) % 16, (m1 : Int) / 16, s2, s4⟩ := by rw [HXD.out]; rfl
                have HXA := hide hX
                clear hX
                have ii : ∀ w, (Instr.index 65 (.agg #[.int .i8 1, .int .i8 2, .int .i8 4, .int .i8 8]) (.int .u8 0)).run Try.prog w = .ok (.int .i8 1) w := fun _ => by kernel_rfl
                have hwq : IntKind.u8.wrap 0 = 0 := by decide
                go_wp2_with fail
                go_region_held3 (fun w' => True)
                  (exact trivial)
                  ((go_at_call 39
                    refine (sizes_any _).mono ?_
                    rintro e w5 ⟨rfl, hb⟩
                    have hb' : Below wc.heap.size wc w5 := by first | exact hb | exact (Below.refl _ _).drew.trans hb
                    have m0 : w5.cell? ⟨gx, 0, none⟩ = some (.int .i8 0) := (hb'.cell (p := ⟨gx, 0, none⟩) HF.out.new.lt).trans n0
                    have m3 : w5.cell? ⟨gx, 3, none⟩ = some (.int .i8 0) := (hb'.cell (p := ⟨gx, 3, none⟩) HF.out.new.lt).trans n3
                    have HN5 := hide (HF.out.new.below hb' HF.out.new.lt)
                    have g0 := HN5.out.frozen 0
                    have g3 := HN5.out.frozen 3
                    have HR5 := hide (HF.out.res.below hb' HF.out.res.lt)
                    have HL5 := hide (HF.out.below.trans (hb'.mono HF.out.below.size))
                    clear hb hb'))
                all_goals
                  go_wp2_with fail
                  go_meet
                  refine ⟨⟨?_, ?_, HF.out.gt, ?_⟩, by unfold rdOp; simp <;> omega⟩
                  · have BX := (HN5.out.set_ 0 (.int .i8 1)).set_ 3 (.int .i8 1)
                    rw [HXA.out]
                    unfold ID.cells
                    dsimp only
                    simpa using BX
                  · exact (HR5.out.far (Nat.ne_of_lt HF.out.gt) _).far (Nat.ne_of_lt HF.out.gt) _
                  · exact (HL5.out.setCell (Nat.le_of_lt HF.out.gt) _).setCell (Nat.le_of_lt HF.out.gt) _
              · have hX : X = ⟨1, 0, 0, 2, false, (m1 : Int) % 16, (m1 : Int) / 16, s2, s4⟩ := by rw [HXD.out]; rfl
                have HXA := hide hX
                clear hX
                have ii : ∀ w, (Instr.index 65 (.agg #[.int .i8 1, .int .i8 2, .int .i8 4, .int .i8 8]) (.int .u8 1)).run Try.prog w = .ok (.int .i8 2) w := fun _ => by kernel_rfl
                have hwq : IntKind.u8.wrap 1 = 1 := by decide
                go_wp2_with fail
                go_region_held3 (fun w' => True)
                  (exact trivial)
                  ((go_at_call 39
                    refine (sizes_any _).mono ?_
                    rintro e w5 ⟨rfl, hb⟩
                    have hb' : Below wc.heap.size wc w5 := by first | exact hb | exact (Below.refl _ _).drew.trans hb
                    have m0 : w5.cell? ⟨gx, 0, none⟩ = some (.int .i8 0) := (hb'.cell (p := ⟨gx, 0, none⟩) HF.out.new.lt).trans n0
                    have m3 : w5.cell? ⟨gx, 3, none⟩ = some (.int .i8 0) := (hb'.cell (p := ⟨gx, 3, none⟩) HF.out.new.lt).trans n3
                    have HN5 := hide (HF.out.new.below hb' HF.out.new.lt)
                    have g0 := HN5.out.frozen 0
                    have g3 := HN5.out.frozen 3
                    have HR5 := hide (HF.out.res.below hb' HF.out.res.lt)
                    have HL5 := hide (HF.out.below.trans (hb'.mono HF.out.below.size))
                    clear hb hb'))
                all_goals
                  go_wp2_with fail
                  go_meet
                  refine ⟨⟨?_, ?_, HF.out.gt, ?_⟩, by unfold rdOp; simp <;> omega⟩
                  · have BX := (HN5.out.set_ 0 (.int .i8 1)).set_ 3 (.int .i8 2)
                    rw [HXA.out]
                    unfold ID.cells
                    dsimp only
                    simpa using BX
                  · exact (HR5.out.far (Nat.ne_of_lt HF.out.gt) _).far (Nat.ne_of_lt HF.out.gt) _
                  · exact (HL5.out.setCell (Nat.le_of_lt HF.out.gt) _).setCell (Nat.le_of_lt HF.out.gt) _
              · have hX : X = ⟨1, 0, 0, 4, false, (m1 : Int) % 16, (m1 : Int) / 16, s2, s4⟩ := by rw [HXD.out]; rfl
                have HXA := hide hX
                clear hX
                have ii : ∀ w, (Instr.index 65 (.agg #[.int .i8 1, .int .i8 2, .int .i8 4, .int .i8 8]) (.int .u8 2)).run Try.prog w = .ok (.int .i8 4) w := fun _ => by kernel_rfl
                have hwq : IntKind.u8.wrap 2 = 2 := by decide
                go_wp2_with fail
                go_region_held3 (fun w' => True)
                  (exact trivial)
                  ((go_at_call 39
                    refine (sizes_any _).mono ?_
                    rintro e w5 ⟨rfl, hb⟩
                    have hb' : Below wc.heap.size wc w5 := by first | exact hb | exact (Below.refl _ _).drew.trans hb
                    have m0 : w5.cell? ⟨gx, 0, none⟩ = some (.int .i8 0) := (hb'.cell (p := ⟨gx, 0, none⟩) HF.out.new.lt).trans n0
                    have m3 : w5.cell? ⟨gx, 3, none⟩ = some (.int .i8 0) := (hb'.cell (p := ⟨gx, 3, none⟩) HF.out.new.lt).trans n3
                    have HN5 := hide (HF.out.new.below hb' HF.out.new.lt)
                    have g0 := HN5.out.frozen 0
                    have g3 := HN5.out.frozen 3
                    have HR5 := hide (HF.out.res.below hb' HF.out.res.lt)
                    have HL5 := hide (HF.out.below.trans (hb'.mono HF.out.below.size))
                    clear hb hb'))
                all_goals
                  go_wp2_with fail
                  go_meet
                  refine ⟨⟨?_, ?_, HF.out.gt, ?_⟩, by unfold rdOp; simp <;> omega⟩
                  · have BX := (HN5.out.set_ 0 (.int .i8 1)).set_ 3 (.int .i8 4)
                    rw [HXA.out]
                    unfold ID.cells
                    dsimp only
                    simpa using BX
                  · exact (HR5.out.far (Nat.ne_of_lt HF.out.gt) _).far (Nat.ne_of_lt HF.out.gt) _
                  · exact (HL5.out.setCell (Nat.le_of_lt HF.out.gt) _).setCell (Nat.le_of_lt HF.out.gt) _
              · have hX : X = ⟨1, 0, 0, 8, false, (m1 : Int) % 16, (m1 : Int) / 16, s2, s4⟩ := by rw [HXD.out]; rfl
                have HXA := hide hX
                clear hX
                have ii : ∀ w, (Instr.index 65 (.agg #[.int .i8 1, .int .i8 2, .int .i8 4, .int .i8 8]) (.int .u8 3)).run Try.prog w = .ok (.int .i8 8) w := fun _ => by kernel_rfl
                have hwq : IntKind.u8.wrap 3 = 3 := by decide
                go_wp2_with fail
                go_region_held3 (fun w' => True)
                  (exact trivial)
                  ((go_at_call 39
                    refine (sizes_any _).mono ?_
                    rintro e w5 ⟨rfl, hb⟩
                    have hb' : Below wc.heap.size wc w5 := by first | exact hb | exact (Below.refl _ _).drew.trans hb
                    have m0 : w5.cell? ⟨gx, 0, none⟩ = some (.int .i8 0) := (hb'.cell (p := ⟨gx, 0, none⟩) HF.out.new.lt).trans n0
                    have m3 : w5.cell? ⟨gx, 3, none⟩ = some (.int .i8 0) := (hb'.cell (p := ⟨gx, 3, none⟩) HF.out.new.lt).trans n3
                    have HN5 := hide (HF.out.new.below hb' HF.out.new.lt)
                    have g0 := HN5.out.frozen 0
                    have g3 := HN5.out.frozen 3
                    have HR5 := hide (HF.out.res.below hb' HF.out.res.lt)
                    have HL5 := hide (HF.out.below.trans (hb'.mono HF.out.below.size))
                    clear hb hb'))
                all_goals
                  go_wp2_with fail
                  go_meet
                  refine ⟨⟨?_, ?_, HF.out.gt, ?_⟩, by unfold rdOp; simp <;> omega⟩
                  · have BX := (HN5.out.set_ 0 (.int .i8 1)).set_ 3 (.int .i8 8)
                    rw [HXA.out]
                    unfold ID.cells
                    dsimp only
                    simpa using BX
                  · exact (HR5.out.far (Nat.ne_of_lt HF.out.gt) _).far (Nat.ne_of_lt HF.out.gt) _
                  · exact (HL5.out.setCell (Nat.le_of_lt HF.out.gt) _).setCell (Nat.le_of_lt HF.out.gt) _
            · have l68 : (68 : Int) ≤ bn := by omega
              by_cases h72 : (bn : Int) < 72
              · have hbad : rdOk [(bn : Int), (m1 : Int), b2, b3, b4, b5, b6, b7] = false := by
                  unfold rdOk rdOp
                  simp
                  intros
                  omega
                have HBD := hide (rd_bad rfl hbad)
                clear hbad
                go_upto_region 5 with fail
                go_wp2_with (refine wpList_store_at rfl 32 (.tmp 2) (.tmp 34) rfl w.heap.size 0 32 (kz 0).cells (kz 0).cells (.agg (kz 0).cells.toArray) HF.out.res (by rfl) (by rfl) rfl sizI (by show 0 + 9 ≤ 9; omega) (kz 0).one ?_
                             intro w8 X8 G8 S8
                             have HE8 := hide (HF.out.below.grown G8 HF.out.below.size (fun g e => by injection e with e; omega))
                             have k0 : w8.cell? ⟨w.heap.size, 0, none⟩ = some (.int .i8 0) := X8.cell 0
                             have k1 := X8.cell 1
                             have k2 := X8.cell 2
                             have k3 := X8.cell 3
                             have k4 := X8.cell 4
                             have k5 := X8.cell 5
                             have k6 := X8.cell 6
                             have k7 := X8.cell 7
                             have k8 := X8.cell 8
                             simp [overC, ID.cells, kz] at k1 k2 k3 k4 k5 k6 k7 k8
                             clear X8 G8 S8)
                refine bodyPost_ret (v := .tuple #[.agg (kz 0).cells.toArray, .int .i64 31]) (by simp [results, Try.results24, go_sem, kz, ID.cells, k0, k1, k2, k3, k4, k5, k6, k7, k8]) rfl ⟨?_, HE8.out⟩
                rw [HBD.out.1, HBD.out.2]
              · have l72 : (72 : Int) ≤ bn := by omega
                by_cases h76 : (bn : Int) < 76
                · have h4 : bn = 72 ∨ bn = 73 ∨ bn = 74 ∨ bn = 75 := by omega
                  rcases h4 with rfl | rfl | rfl | rfl
                  · have hX : X = ⟨2, 0, 0, 1, false, (m1 : Int) % 16, (m1 : Int) / 16, s2, s4⟩ := by rw [HXD.out]; rfl
                    have HXA := hide hX
                    clear hX
                    have ii : ∀ w, (Instr.index 65 (.agg #[.int .i8 1, .int .i8 2, .int .i8 4, .int .i8 8]) (.int .u8 0)).run Try.prog w = .ok (.int .i8 1) w := fun _ => by kernel_rfl
                    have hwq : IntKind.u8.wrap 0 = 0 := by decide
                    go_wp2_with fail
                    go_region_held3 (fun w' => True)
                      (exact trivial)
                      ((go_at_call 39
                        refine (sizes_any _).mono ?_
                        rintro e w5 ⟨rfl, hb⟩
                        have hb' : Below wc.heap.size wc w5 := by first | exact hb | exact (Below.refl _ _).drew.trans hb
                        have m0 : w5.cell? ⟨gx, 0, none⟩ = some (.int .i8 0) := (hb'.cell (p := ⟨gx, 0, none⟩) HF.out.new.lt).trans n0
                        have m3 : w5.cell? ⟨gx, 3, none⟩ = some (.int .i8 0) := (hb'.cell (p := ⟨gx, 3, none⟩) HF.out.new.lt).trans n3
                        have HN5 := hide (HF.out.new.below hb' HF.out.new.lt)
                        have g0 := HN5.out.frozen 0
                        have g3 := HN5.out.frozen 3
                        have HR5 := hide (HF.out.res.below hb' HF.out.res.lt)
                        have HL5 := hide (HF.out.below.trans (hb'.mono HF.out.below.size))
                        clear hb hb'))
                    all_goals
                      go_wp2_with fail
                      go_meet
                      refine ⟨⟨?_, ?_, HF.out.gt, ?_⟩, by unfold rdOp; simp <;> omega⟩
                      · have BX := (HN5.out.set_ 0 (.int .i8 2)).set_ 3 (.int .i8 1)
                        rw [HXA.out]
                        unfold ID.cells
                        dsimp only
                        simpa using BX
                      · exact (HR5.out.far (Nat.ne_of_lt HF.out.gt) _).far (Nat.ne_of_lt HF.out.gt) _
                      · exact (HL5.out.setCell (Nat.le_of_lt HF.out.gt) _).setCell (Nat.le_of_lt HF.out.gt) _
                  · have hX : X = ⟨2, 0, 0, 2, false, (m1 : Int) % 16, (m1 : Int) / 16, s2, s4⟩ := by rw [HXD.out]; rfl
                    have HXA := hide hX
                    clear hX
                    have ii : ∀ w, (Instr.index 65 (.agg #[.int .i8 1, .int .i8 2, .int .i8 4, .int .i8 8]) (.int .u8 1)).run Try.prog w = .ok (.int .i8 2) w := fun _ => by kernel_rfl
                    have hwq : IntKind.u8.wrap 1 = 1 := by decide
                    go_wp2_with fail
                    go_region_held3 (fun w' => True)
                      (exact trivial)
                      ((go_at_call 39
                        refine (sizes_any _).mono ?_
                        rintro e w5 ⟨rfl, hb⟩
                        have hb' : Below wc.heap.size wc w5 := by first | exact hb | exact (Below.refl _ _).drew.trans hb
                        have m0 : w5.cell? ⟨gx, 0, none⟩ = some (.int .i8 0) := (hb'.cell (p := ⟨gx, 0, none⟩) HF.out.new.lt).trans n0
                        have m3 : w5.cell? ⟨gx, 3, none⟩ = some (.int .i8 0) := (hb'.cell (p := ⟨gx, 3, none⟩) HF.out.new.lt).trans n3
                        have HN5 := hide (HF.out.new.below hb' HF.out.new.lt)
                        have g0 := HN5.out.frozen 0
                        have g3 := HN5.out.frozen 3
                        have HR5 := hide (HF.out.res.below hb' HF.out.res.lt)
                        have HL5 := hide (HF.out.below.trans (hb'.mono HF.out.below.size))
                        clear hb hb'))
                    all_goals
                      go_wp2_with fail
                      go_meet
                      refine ⟨⟨?_, ?_, HF.out.gt, ?_⟩, by unfold rdOp; simp <;> omega⟩
                      · have BX := (HN5.out.set_ 0 (.int .i8 2)).set_ 3 (.int .i8 2)
                        rw [HXA.out]
                        unfold ID.cells
                        dsimp only
                        simpa using BX
                      · exact (HR5.out.far (Nat.ne_of_lt HF.out.gt) _).far (Nat.ne_of_lt HF.out.gt) _
                      · exact (HL5.out.setCell (Nat.le_of_lt HF.out.gt) _).setCell (Nat.le_of_lt HF.out.gt) _
                  · have hX : X = ⟨2, 0, 0, 4, false, (m1 : Int) % 16, (m1 : Int) / 16, s2, s4⟩ := by rw [HXD.out]; rfl
                    have HXA := hide hX
                    clear hX
                    have ii : ∀ w, (Instr.index 65 (.agg #[.int .i8 1, .int .i8 2, .int .i8 4, .int .i8 8]) (.int .u8 2)).run Try.prog w = .ok (.int .i8 4) w := fun _ => by kernel_rfl
                    have hwq : IntKind.u8.wrap 2 = 2 := by decide
                    go_wp2_with fail
                    go_region_held3 (fun w' => True)
                      (exact trivial)
                      ((go_at_call 39
                        refine (sizes_any _).mono ?_
                        rintro e w5 ⟨rfl, hb⟩
                        have hb' : Below wc.heap.size wc w5 := by first | exact hb | exact (Below.refl _ _).drew.trans hb
                        have m0 : w5.cell? ⟨gx, 0, none⟩ = some (.int .i8 0) := (hb'.cell (p := ⟨gx, 0, none⟩) HF.out.new.lt).trans n0
                        have m3 : w5.cell? ⟨gx, 3, none⟩ = some (.int .i8 0) := (hb'.cell (p := ⟨gx, 3, none⟩) HF.out.new.lt).trans n3
                        have HN5 := hide (HF.out.new.below hb' HF.out.new.lt)
                        have g0 := HN5.out.frozen 0
                        have g3 := HN5.out.frozen 3
                        have HR5 := hide (HF.out.res.below hb' HF.out.res.lt)
                        have HL5 := hide (HF.out.below.trans (hb'.mono HF.out.below.size))
                        clear hb hb'))
                    all_goals
                      go_wp2_with fail
                      go_meet
                      refine ⟨⟨?_, ?_, HF.out.gt, ?_⟩, by unfold rdOp; simp <;> omega⟩
                      · have BX := (HN5.out.set_ 0 (.int .i8 2)).set_ 3 (.int .i8 4)
                        rw [HXA.out]
                        unfold ID.cells
                        dsimp only
                        simpa using BX
                      · exact (HR5.out.far (Nat.ne_of_lt HF.out.gt) _).far (Nat.ne_of_lt HF.out.gt) _
                      · exact (HL5.out.setCell (Nat.le_of_lt HF.out.gt) _).setCell (Nat.le_of_lt HF.out.gt) _
                  · have hX : X = ⟨2, 0, 0, 8, false, (m1 : Int) % 16, (m1 : Int) / 16, s2, s4⟩ := by rw [HXD.out]; rfl
                    have HXA := hide hX
                    clear hX
                    have ii : ∀ w, (Instr.index 65 (.agg #[.int .i8 1, .int .i8 2, .int .i8 4, .int .i8 8]) (.int .u8 3)).run Try.prog w = .ok (.int .i8 8) w := fun _ => by kernel_rfl
                    have hwq : IntKind.u8.wrap 3 = 3 := by decide
                    go_wp2_with fail
                    go_region_held3 (fun w' => True)
                      (exact trivial)
                      ((go_at_call 39
                        refine (sizes_any _).mono ?_
                        rintro e w5 ⟨rfl, hb⟩
                        have hb' : Below wc.heap.size wc w5 := by first | exact hb | exact (Below.refl _ _).drew.trans hb
                        have m0 : w5.cell? ⟨gx, 0, none⟩ = some (.int .i8 0) := (hb'.cell (p := ⟨gx, 0, none⟩) HF.out.new.lt).trans n0
                        have m3 : w5.cell? ⟨gx, 3, none⟩ = some (.int .i8 0) := (hb'.cell (p := ⟨gx, 3, none⟩) HF.out.new.lt).trans n3
                        have HN5 := hide (HF.out.new.below hb' HF.out.new.lt)
                        have g0 := HN5.out.frozen 0
                        have g3 := HN5.out.frozen 3
                        have HR5 := hide (HF.out.res.below hb' HF.out.res.lt)
                        have HL5 := hide (HF.out.below.trans (hb'.mono HF.out.below.size))
                        clear hb hb'))
                    all_goals
                      go_wp2_with fail
                      go_meet
                      refine ⟨⟨?_, ?_, HF.out.gt, ?_⟩, by unfold rdOp; simp <;> omega⟩
                      · have BX := (HN5.out.set_ 0 (.int .i8 2)).set_ 3 (.int .i8 8)
                        rw [HXA.out]
                        unfold ID.cells
                        dsimp only
                        simpa using BX
                      · exact (HR5.out.far (Nat.ne_of_lt HF.out.gt) _).far (Nat.ne_of_lt HF.out.gt) _
                      · exact (HL5.out.setCell (Nat.le_of_lt HF.out.gt) _).setCell (Nat.le_of_lt HF.out.gt) _
                · have l76 : (76 : Int) ≤ bn := by omega
                  by_cases h80 : (bn : Int) < 80
                  · have hbad : rdOk [(bn : Int), (m1 : Int), b2, b3, b4, b5, b6, b7] = false := by
                      unfold rdOk rdOp
                      simp
                      intros
                      omega
                    have HBD := hide (rd_bad rfl hbad)
                    clear hbad
                    go_upto_region 5 with fail
                    go_wp2_with (refine wpList_store_at rfl 32 (.tmp 2) (.tmp 34) rfl w.heap.size 0 32 (kz 0).cells (kz 0).cells (.agg (kz 0).cells.toArray) HF.out.res (by rfl) (by rfl) rfl sizI (by show 0 + 9 ≤ 9; omega) (kz 0).one ?_
                                 intro w8 X8 G8 S8
                                 have HE8 := hide (HF.out.below.grown G8 HF.out.below.size (fun g e => by injection e with e; omega))
                                 have k0 : w8.cell? ⟨w.heap.size, 0, none⟩ = some (.int .i8 0) := X8.cell 0
                                 have k1 := X8.cell 1
                                 have k2 := X8.cell 2
                                 have k3 := X8.cell 3
                                 have k4 := X8.cell 4
                                 have k5 := X8.cell 5
                                 have k6 := X8.cell 6
                                 have k7 := X8.cell 7
                                 have k8 := X8.cell 8
                                 simp [overC, ID.cells, kz] at k1 k2 k3 k4 k5 k6 k7 k8
                                 clear X8 G8 S8)
                    refine bodyPost_ret (v := .tuple #[.agg (kz 0).cells.toArray, .int .i64 31]) (by simp [results, Try.results24, go_sem, kz, ID.cells, k0, k1, k2, k3, k4, k5, k6, k7, k8]) rfl ⟨?_, HE8.out⟩
                    rw [HBD.out.1, HBD.out.2]
                  · have l80 : (80 : Int) ≤ bn := by omega
                    by_cases h112 : (bn : Int) < 112 ∧ (bn : Int) % 16 ≤ 10
                    · obtain ⟨h112, h10⟩ := h112
                      have hX : X = ⟨3, (bn : Int) % 16, 0, 0, decide (96 ≤ (bn : Int)), (m1 : Int) % 16, (m1 : Int) / 16, s2, s4⟩ := by rw [HXD.out, if_neg (by omega), if_neg (by omega), if_neg (by omega), if_pos ⟨h112, h10⟩]
                      have HXA := hide hX
                      clear hX
                      go_wp2_with fail
                      go_meet
                      refine ⟨⟨?_, ?_, HF.out.gt, ?_⟩, by unfold rdOp; simp <;> omega⟩
                      · have BX := ((HF.out.new.set_ 0 (.int .i8 3)).set_ 1 (.int .i8 ((bn : Int) % 16))).set_ 4 (.bool (decide (96 ≤ (bn : Int))))
                        rw [HXA.out]
                        unfold ID.cells
                        dsimp only
                        simpa using BX
                      · exact ((HF.out.res.far (Nat.ne_of_lt HF.out.gt) _).far (Nat.ne_of_lt HF.out.gt) _).far (Nat.ne_of_lt HF.out.gt) _
                      · exact ((HF.out.below.setCell (Nat.le_of_lt HF.out.gt) _).setCell (Nat.le_of_lt HF.out.gt) _).setCell (Nat.le_of_lt HF.out.gt) _
                    · by_cases hgt : bn = 111 ∨ bn = 112 ∨ bn = 113
                      · rcases hgt with rfl | rfl | rfl
                        · have hX : X = ⟨4, 0, 0, 0, false, (m1 : Int) % 16, (m1 : Int) / 16, s2, s4⟩ := by rw [HXD.out]; rfl
                          have HXA := hide hX
                          clear hX
                          go_wp2_with fail
                          go_meet
                          refine ⟨⟨?_, ?_, HF.out.gt, ?_⟩, by unfold rdOp; simp <;> omega⟩
                          · have BX := HF.out.new.set_ 0 (.int .i8 4)
                            rw [HXA.out]
                            unfold ID.cells
                            dsimp only
                            simpa using BX
                          · exact HF.out.res.far (Nat.ne_of_lt HF.out.gt) _
                          · exact HF.out.below.setCell (Nat.le_of_lt HF.out.gt) _
                        · have hX : X = ⟨5, 0, 0, 0, false, (m1 : Int) % 16, (m1 : Int) / 16, s2, s4⟩ := by rw [HXD.out]; rfl
                          have HXA := hide hX
                          clear hX
                          go_wp2_with fail
                          go_meet
                          refine ⟨⟨?_, ?_, HF.out.gt, ?_⟩, by unfold rdOp; simp <;> omega⟩
                          · have BX := HF.out.new.set_ 0 (.int .i8 5)
                            rw [HXA.out]
                            unfold ID.cells
                            dsimp only
                            simpa using BX
                          · exact HF.out.res.far (Nat.ne_of_lt HF.out.gt) _
                          · exact HF.out.below.setCell (Nat.le_of_lt HF.out.gt) _
                        · have hX : X = ⟨6, 0, 0, 0, false, (m1 : Int) % 16, (m1 : Int) / 16, s2, s4⟩ := by rw [HXD.out]; rfl
                          have HXA := hide hX
                          clear hX
                          go_wp2_with fail
                          go_meet
                          refine ⟨⟨?_, ?_, HF.out.gt, ?_⟩, by unfold rdOp; simp <;> omega⟩
                          · have BX := HF.out.new.set_ 0 (.int .i8 6)
                            rw [HXA.out]
                            unfold ID.cells
                            dsimp only
                            simpa using BX
                          · exact HF.out.res.far (Nat.ne_of_lt HF.out.gt) _
                          · exact HF.out.below.setCell (Nat.le_of_lt HF.out.gt) _
                      · have hcls : ((bn : Int) < 111 ∧ 10 < (bn : Int) % 16) ∨ (113 < (bn : Int)) := by omega
                        rcases hcls with ⟨l111, l10⟩ | l113
                        · have hbad : rdOk [(bn : Int), (m1 : Int), b2, b3, b4, b5, b6, b7] = false := by
                            unfold rdOk rdOp
                            simp
                            intros
                            omega
                          have HBD := hide (rd_bad rfl hbad)
                          clear hbad
                          go_upto_region 5 with fail
                          go_wp2_with (refine wpList_store_at rfl 32 (.tmp 2) (.tmp 34) rfl w.heap.size 0 32 (kz 0).cells (kz 0).cells (.agg (kz 0).cells.toArray) HF.out.res (by rfl) (by rfl) rfl sizI (by show 0 + 9 ≤ 9; omega) (kz 0).one ?_
                                       intro w8 X8 G8 S8
                                       have HE8 := hide (HF.out.below.grown G8 HF.out.below.size (fun g e => by injection e with e; omega))
                                       have k0 : w8.cell? ⟨w.heap.size, 0, none⟩ = some (.int .i8 0) := X8.cell 0
                                       have k1 := X8.cell 1
                                       have k2 := X8.cell 2
                                       have k3 := X8.cell 3
                                       have k4 := X8.cell 4
                                       have k5 := X8.cell 5
                                       have k6 := X8.cell 6
                                       have k7 := X8.cell 7
                                       have k8 := X8.cell 8
                                       simp [overC, ID.cells, kz] at k1 k2 k3 k4 k5 k6 k7 k8
                                       clear X8 G8 S8)
                          refine bodyPost_ret (v := .tuple #[.agg (kz 0).cells.toArray, .int .i64 31]) (by simp [results, Try.results24, go_sem, kz, ID.cells, k0, k1, k2, k3, k4, k5, k6, k7, k8]) rfl ⟨?_, HE8.out⟩
                          rw [HBD.out.1, HBD.out.2]
                        · have l112 : (112 : Int) ≤ bn := by omega
                          have hbad : rdOk [(bn : Int), (m1 : Int), b2, b3, b4, b5, b6, b7] = false := by
                            unfold rdOk rdOp
                            simp
                            intros
                            omega
                          have HBD := hide (rd_bad rfl hbad)
                          clear hbad
                          go_upto_region 5 with fail
                          go_wp2_with (refine wpList_store_at rfl 32 (.tmp 2) (.tmp 34) rfl w.heap.size 0 32 (kz 0).cells (kz 0).cells (.agg (kz 0).cells.toArray) HF.out.res (by rfl) (by rfl) rfl sizI (by show 0 + 9 ≤ 9; omega) (kz 0).one ?_
                                       intro w8 X8 G8 S8
                                       have HE8 := hide (HF.out.below.grown G8 HF.out.below.size (fun g e => by injection e with e; omega))
                                       have k0 : w8.cell? ⟨w.heap.size, 0, none⟩ = some (.int .i8 0) := X8.cell 0
                                       have k1 := X8.cell 1
                                       have k2 := X8.cell 2
                                       have k3 := X8.cell 3
                                       have k4 := X8.cell 4
                                       have k5 := X8.cell 5
                                       have k6 := X8.cell 6
                                       have k7 := X8.cell 7
                                       have k8 := X8.cell 8
                                       simp [overC, ID.cells, kz] at k1 k2 k3 k4 k5 k6 k7 k8
                                       clear X8 G8 S8)
                          refine bodyPost_ret (v := .tuple #[.agg (kz 0).cells.toArray, .int .i64 31]) (by simp [results, Try.results24, go_sem, kz, ID.cells, k0, k1, k2, k3, k4, k5, k6, k7, k8]) rfl ⟨?_, HE8.out⟩
                          rw [HBD.out.1, HBD.out.2]
        case rest =>
          obtain ⟨hG, hop⟩ := hcut
          have HG := hide hG
          have hXw : X.wf := by
            have hx := HXD.out
            have hs := sz_bd (bn : Int)
            unfold rdOp at hop
            simp at hop
            unfold ID.wf I8 I64
            split at hx
            · subst hx; dsimp only; split <;> omega
            · split at hx
              · subst hx; dsimp only; omega
              · split at hx
                · subst hx; dsimp only; omega
                · split at hx
                  · subst hx; dsimp only; omega
                  · subst hx; dsimp only; omega
          have hok : rdOk [(bn : Int), (m1 : Int), b2, b3, b4, b5, b6, b7] = mayB X := by
            unfold rdOk
            rw [HXX.out]
            show ((8 : Nat) == 8 && (rdOp (bn : Int) && mayB X)) = mayB X
            rw [hop]
            simp
          have HOK := hide hok
          have HXW := hide hXw
          clear hG hop hXw hok
          have hz := HG.out.new.lt
          cases hm : mayB X
          · have HM := hide hm
            clear hm
            have HBD := hide (rd_bad rfl (HOK.out.trans HM.out))
            go_wp2_with (refine wpList_load_at rfl 32 (.tmp 4) rfl ⟨gx, 0, none⟩ rfl X.cells _ (blk_list HG.out.new) Try.underlying32 rfl sizI ?_)
            refine (may_any X _ HXW.out).mono ?_
            rintro e w7 ⟨rfl, hb⟩
            rw [HM.out]
            have HR7 := hide (HG.out.res.below hb HG.out.res.lt)
            have HL7 := hide (HG.out.below.trans (hb.mono HG.out.below.size))
            clear hb
            go_wp2_with (refine wpList_store_at rfl 32 (.tmp 2) (.tmp 109) rfl w.heap.size 0 32 (kz 0).cells (kz 0).cells (.agg (kz 0).cells.toArray) HR7.out (by rfl) (by rfl) rfl sizI (by show 0 + 9 ≤ 9; omega) (kz 0).one ?_
                         intro w8 X8 G8 S8
                         have HE8 := hide (HL7.out.grown G8 HL7.out.size (fun g e => by injection e with e; omega))
                         have k0 := X8.cell 0
                         have k1 := X8.cell 1
                         have k2 := X8.cell 2
                         have k3 := X8.cell 3
                         have k4 := X8.cell 4
                         have k5 := X8.cell 5
                         have k6 := X8.cell 6
                         have k7 := X8.cell 7
                         have k8 := X8.cell 8
                         simp [overC, ID.cells, kz] at k0 k1 k2 k3 k4 k5 k6 k7 k8
                         clear X8 G8 S8)
            refine bodyPost_ret (v := .tuple #[.agg (kz 0).cells.toArray, .int .i64 31]) (by simp [results, Try.results24, go_sem, kz, ID.cells, k0, k1, k2, k3, k4, k5, k6, k7, k8]) rfl ⟨?_, HE8.out⟩
            rw [HBD.out.1, HBD.out.2]
          · have HM := hide hm
            clear hm
            go_wp2_with (refine wpList_load_at rfl 32 (.tmp 4) rfl ⟨gx, 0, none⟩ rfl X.cells _ (blk_list HG.out.new) Try.underlying32 rfl sizI ?_)
            refine (may_any X _ HXW.out).mono ?_
            rintro e w7 ⟨rfl, hb⟩
            rw [HM.out]
            have HN7 := hide (HG.out.new.below hb HG.out.new.lt)
            have HR7 := hide (HG.out.res.below hb HG.out.res.lt)
            have HL7 := hide (HG.out.below.trans (hb.mono HG.out.below.size))
            clear hb
            go_upto_region 18 with fail
            go_wp2_with (first
              | (refine wpList_load_at rfl 32 (.tmp 4) rfl ⟨gx, 0, none⟩ rfl X.cells _ (blk_list HN7.out) Try.underlying32 rfl sizI ?_)
              | (refine wpList_store_at rfl 32 (.tmp 2) (.tmp 110) rfl w.heap.size 0 32 (kz 0).cells X.cells (.agg X.cells.toArray) HR7.out (by rfl) (by rfl) rfl sizI (by show 0 + 9 ≤ 9; omega) X.one ?_
                 intro w8 X8 G8 S8
                 have HE8 := hide (HL7.out.grown G8 HL7.out.size (fun g e => by injection e with e; omega))
                 have k0 := X8.cell 0
                 have k1 := X8.cell 1
                 have k2 := X8.cell 2
                 have k3 := X8.cell 3
                 have k4 := X8.cell 4
                 have k5 := X8.cell 5
                 have k6 := X8.cell 6
                 have k7 := X8.cell 7
                 have k8 := X8.cell 8
                 simp [overC, ID.cells, kz] at k0 k1 k2 k3 k4 k5 k6 k7 k8
                 clear X8 G8 S8))
            refine bodyPost_ret (v := .tuple #[.agg X.cells.toArray, .int .i64 0]) (by simp [results, Try.results24, go_sem, ID.cells, k0, k1, k2, k3, k4, k5, k6, k7, k8]) rfl ⟨?_, HE8.out⟩
            have hO : rdO [(bn : Int), (m1 : Int), b2, b3, b4, b5, b6, b7] = X := by unfold rdO; rw [HOK.out, HM.out, if_pos rfl, HXX.out]
            have hE : rdE [(bn : Int), (m1 : Int), b2, b3, b4, b5, b6, b7] = 0 := by unfold rdE; rw [HOK.out, HM.out, if_pos rfl]; rfl
            rw [hO, hE]
  · have hO : rdO b = kz 0 := by unfold rdO rdOk; rw [hl]; simp [h8]
    have hE : rdE b = 30 := by unfold rdE; rw [hl, if_neg h8]
    have hne : ((n : Int) != 8) = true := by simp; omega
    have HO := hide hO
    have HE := hide hE
    clear hO hE hr hb h8
    go_enter Try.func24, Try.ntmps24
    go_wp2
    refine bodyPost_ret (v := .tuple #[.agg (kz 0).cells.toArray, .int .i64 30]) (by simp [results, Try.results24, go_sem, kz, ID.cells]) rfl ⟨?_, (Below.refl _ _).alloc (Nat.le_refl _) _⟩
    rw [HO.out, HE.out]
end Go.Proofs.Ytopanomcbkhbnaa
