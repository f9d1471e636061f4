/-
  Parts of the proof of SymbcSound. Conditions: those written in each statement.
-/
import Derived.Test.YtepagfkkjlbipaaGreatKah
import Derived.Test.YtepagfkkjlbipaaGreatKag
set_option linter.unusedVariables false
set_option linter.unusedSimpArgs false
set_option maxHeartbeats 64000000
set_option maxRecDepth 100000
namespace Go.Proofs.YtepagfkkjlbipaaGreat
open Tryz
section
open Go.RowKit
def ordV (a b : Int) : Int := if a < b then -1 else if b < a then 1 else 0
def holdsU (cc x a b : Int) : Bool :=
 if cc = 10 then bits .and .u64 (cutV x a) (cutV x b) != 0
 else
  let c := if 6 ≤ cc then ordV (wrap64 (signU x (cutV x a))) (wrap64 (signU x (cutV x b))) else ordV (cutV x a) (cutV x b)
  if cc = 0 then c == 0 else if cc = 1 then c != 0 else if cc = 2 ∨ cc = 6 then decide (0 < c) else if cc = 3 ∨ cc = 7 then decide (0 ≤ c) else if cc = 4 ∨ cc = 8 then decide (c < 0) else decide (c ≤ 0)
def holdsOk (cc x : Int) : Bool := decide (0 ≤ cc) && (decide (cc ≤ 10) && longB x)
theorem ord_u (a b : Int) (w : World) : Calls prog 150 #[.int .u64 a, .int .u64 b] w fun e w' => e = .returned (.int .i64 (ordV a b)) ∧ w = w' := by
 cases h1 : decide (a < b)
 ·cases h2 : decide (b < a)
  ·go_enter func150, ntmps150
   go_wp2
   go_ret
   exact ⟨ret_i (by simp at h1 h2; unfold ordV; rw [if_neg (by omega), if_neg (by omega)]), rfl⟩
  ·go_enter func150, ntmps150
   go_wp2
   go_ret
   exact ⟨ret_i (by simp at h1 h2; unfold ordV; rw [if_neg (by omega), if_pos (by omega)]), rfl⟩
 ·go_enter func150, ntmps150
  go_wp2
  go_ret
  exact ⟨ret_i (by simp at h1; unfold ordV; rw [if_pos (by omega)]), rfl⟩
theorem ord_i (a b : Int) (w : World) : Calls prog 151 #[.int .i64 a, .int .i64 b] w fun e w' => e = .returned (.int .i64 (ordV a b)) ∧ w = w' := by
 cases h1 : decide (a < b)
 ·cases h2 : decide (b < a)
  ·go_enter func151, ntmps151
   go_wp2
   go_ret
   exact ⟨ret_i (by simp at h1 h2; unfold ordV; rw [if_neg (by omega), if_neg (by omega)]), rfl⟩
  ·go_enter func151, ntmps151
   go_wp2
   go_ret
   exact ⟨ret_i (by simp at h1 h2; unfold ordV; rw [if_neg (by omega), if_pos (by omega)]), rfl⟩
 ·go_enter func151, ntmps151
  go_wp2
  go_ret
  exact ⟨ret_i (by simp at h1; unfold ordV; rw [if_pos (by omega)]), rfl⟩
theorem ret_tb {a b : Bool} {k : Int} (h : a = b) : Ending.returned (.tuple #[.bool a, .int .i64 k]) = .returned (.tuple #[.bool b, .int .i64 k]) := by rw [h]
theorem holdsOk_no {cc x : Int} (h : holdsOk cc x = false) : cc < 0 ∨ 10 < cc ∨ longB x = false := by
 unfold holdsOk at h
 cases hl : longB x
 ·exact .inr (.inr rfl)
 ·rw [hl] at h
  simp at h
  by_cases h0 : cc < 0
  ·exact .inl h0
  ·exact .inr (.inl (by omega))
theorem holdsOk_yes {cc x : Int} (h : holdsOk cc x = true) : (x = 32 ∨ x = 64) ∧ 0 ≤ cc ∧ cc ≤ 10 := by
 unfold holdsOk longB at h
 simp at h
 omega
theorem holds_no {cc x : Int} (a b : Int) (w : World) (h0 : holdsOk cc x = false) : Calls prog 99 #[.int .i8 cc, .int .i8 x, .int .u64 a, .int .u64 b] w fun e w' => e = .returned (.tuple #[.bool false, .int .i64 2]) ∧ w = w' := by
 have h := holdsOk_no h0
 clear h0
 cases h1 : decide (cc < 0)
 ·cases h2 : decide (10 < cc)
  ·have HL := Hd (show longB x = false by simp at h1 h2; rcases h with h | h | h <;> first | exact h | omega)
   clear h
   go_enter func99, ntmps99
   go_wp2_with fail
   refine (long_any x _).mono ?_
   rintro e w' ⟨rfl, rfl⟩
   rw [HL.out]
   go_wp2
   go_ret2
   exact ⟨rfl, rfl⟩
  ·clear h
   go_enter func99, ntmps99
   go_wp2
   go_ret2
   exact ⟨rfl, rfl⟩
 ·clear h
  go_enter func99, ntmps99
  go_wp2
  go_ret2
  exact ⟨rfl, rfl⟩
theorem pick0 (b0 b1 b2 b3 b4 b5 b6 b7 b8 b9 : Bool) (w : World) : (Instr.index 201 (.agg #[.bool b0, .bool b1, .bool b2, .bool b3, .bool b4, .bool b5, .bool b6, .bool b7, .bool b8, .bool b9]) (.int .i8 0)).run prog w = .ok (.bool b0) w := by kernel_rfl
theorem pick1 (b0 b1 b2 b3 b4 b5 b6 b7 b8 b9 : Bool) (w : World) : (Instr.index 201 (.agg #[.bool b0, .bool b1, .bool b2, .bool b3, .bool b4, .bool b5, .bool b6, .bool b7, .bool b8, .bool b9]) (.int .i8 1)).run prog w = .ok (.bool b1) w := by kernel_rfl
theorem pick2 (b0 b1 b2 b3 b4 b5 b6 b7 b8 b9 : Bool) (w : World) : (Instr.index 201 (.agg #[.bool b0, .bool b1, .bool b2, .bool b3, .bool b4, .bool b5, .bool b6, .bool b7, .bool b8, .bool b9]) (.int .i8 2)).run prog w = .ok (.bool b2) w := by kernel_rfl
theorem pick3 (b0 b1 b2 b3 b4 b5 b6 b7 b8 b9 : Bool) (w : World) : (Instr.index 201 (.agg #[.bool b0, .bool b1, .bool b2, .bool b3, .bool b4, .bool b5, .bool b6, .bool b7, .bool b8, .bool b9]) (.int .i8 3)).run prog w = .ok (.bool b3) w := by kernel_rfl
theorem pick4 (b0 b1 b2 b3 b4 b5 b6 b7 b8 b9 : Bool) (w : World) : (Instr.index 201 (.agg #[.bool b0, .bool b1, .bool b2, .bool b3, .bool b4, .bool b5, .bool b6, .bool b7, .bool b8, .bool b9]) (.int .i8 4)).run prog w = .ok (.bool b4) w := by kernel_rfl
theorem pick5 (b0 b1 b2 b3 b4 b5 b6 b7 b8 b9 : Bool) (w : World) : (Instr.index 201 (.agg #[.bool b0, .bool b1, .bool b2, .bool b3, .bool b4, .bool b5, .bool b6, .bool b7, .bool b8, .bool b9]) (.int .i8 5)).run prog w = .ok (.bool b5) w := by kernel_rfl
theorem pick6 (b0 b1 b2 b3 b4 b5 b6 b7 b8 b9 : Bool) (w : World) : (Instr.index 201 (.agg #[.bool b0, .bool b1, .bool b2, .bool b3, .bool b4, .bool b5, .bool b6, .bool b7, .bool b8, .bool b9]) (.int .i8 6)).run prog w = .ok (.bool b6) w := by kernel_rfl
theorem pick7 (b0 b1 b2 b3 b4 b5 b6 b7 b8 b9 : Bool) (w : World) : (Instr.index 201 (.agg #[.bool b0, .bool b1, .bool b2, .bool b3, .bool b4, .bool b5, .bool b6, .bool b7, .bool b8, .bool b9]) (.int .i8 7)).run prog w = .ok (.bool b7) w := by kernel_rfl
theorem pick8 (b0 b1 b2 b3 b4 b5 b6 b7 b8 b9 : Bool) (w : World) : (Instr.index 201 (.agg #[.bool b0, .bool b1, .bool b2, .bool b3, .bool b4, .bool b5, .bool b6, .bool b7, .bool b8, .bool b9]) (.int .i8 8)).run prog w = .ok (.bool b8) w := by kernel_rfl
theorem pick9 (b0 b1 b2 b3 b4 b5 b6 b7 b8 b9 : Bool) (w : World) : (Instr.index 201 (.agg #[.bool b0, .bool b1, .bool b2, .bool b3, .bool b4, .bool b5, .bool b6, .bool b7, .bool b8, .bool b9]) (.int .i8 9)).run prog w = .ok (.bool b9) w := by kernel_rfl
theorem holds_yes {cc x : Int} (a b : Int) (w : World) (h : holdsOk cc x = true) : Calls prog 99 #[.int .i8 cc, .int .i8 x, .int .u64 a, .int .u64 b] w fun e w' => e = .returned (.tuple #[.bool (holdsU cc x a b), .int .i64 0]) ∧ w = w' := by
 obtain ⟨hx, h0, h1⟩ := holdsOk_yes h
 have hL : longB x = true := by rcases hx with rfl | rfl <;> rfl
 have hops : (cc = 0 ∨ cc = 1 ∨ cc = 2 ∨ cc = 3 ∨ cc = 4 ∨ cc = 5) ∨ (cc = 6 ∨ cc = 7 ∨ cc = 8 ∨ cc = 9) ∨ cc = 10 := by omega
 clear h h0 h1 hx
 have HL := Hd hL
 clear hL
 rcases hops with hops | hops | rfl
 ·rcases hops with rfl | rfl | rfl | rfl | rfl | rfl
  all_goals
   go_enter func99, ntmps99
   go_wp2_with fail
   refine (long_any _ _).mono ?_
   rintro e w' ⟨rfl, rfl⟩
   rw [HL.out]
   go_wp2_with fail
   refine (cut_any _ _ _).mono ?_
   rintro e w' ⟨rfl, rfl⟩
   go_wp2_with fail
   refine (cut_any _ _ _).mono ?_
   rintro e w' ⟨rfl, rfl⟩
   go_wp2_with fail
   refine (ord_u _ _ _).mono ?_
   rintro e w' ⟨rfl, rfl⟩
   obtain ⟨c, hc⟩ : ∃ c, ordV (cutV x a) (cutV x b) = c := ⟨_, rfl⟩
   rw [hc]
   have HC := Hd hc
   clear hc
   have p0 := pick0; have p1 := pick1; have p2 := pick2; have p3 := pick3; have p4 := pick4; have p5 := pick5
   go_wp2
   go_ret2
   exact ⟨ret_tb (by unfold holdsU; simp [HC.out]), rfl⟩
 ·rcases hops with rfl | rfl | rfl | rfl
  all_goals
   go_enter func99, ntmps99
   go_wp2_with fail
   refine (long_any _ _).mono ?_
   rintro e w' ⟨rfl, rfl⟩
   rw [HL.out]
   go_wp2_with fail
   refine (cut_any _ _ _).mono ?_
   rintro e w' ⟨rfl, rfl⟩
   go_wp2_with fail
   refine (cut_any _ _ _).mono ?_
   rintro e w' ⟨rfl, rfl⟩
   go_wp2_with fail
   refine (ord_u _ _ _).mono ?_
   rintro e w' ⟨rfl, rfl⟩
   obtain ⟨c, hc⟩ : ∃ c, ordV (cutV x a) (cutV x b) = c := ⟨_, rfl⟩
   rw [hc]
   have HC := Hd hc
   clear hc
   go_wp2_with fail
   refine (sign_any _ _ _).mono ?_
   rintro e w' ⟨rfl, rfl⟩
   go_wp2_with fail
   refine (sign_any _ _ _).mono ?_
   rintro e w' ⟨rfl, rfl⟩
   go_wp2_with fail
   refine (ord_i _ _ _).mono ?_
   rintro e w' ⟨rfl, rfl⟩
   clear HC
   obtain ⟨c, hc⟩ : ∃ c, ordV (wrap64 (signU x (cutV x a))) (wrap64 (signU x (cutV x b))) = c := ⟨_, rfl⟩
   rw [hc]
   have HC := Hd hc
   clear hc
   have p6 := pick6; have p7 := pick7; have p8 := pick8; have p9 := pick9
   go_wp2
   go_ret2
   exact ⟨ret_tb (by unfold holdsU; simp [HC.out]), rfl⟩
 ·go_enter func99, ntmps99
  go_wp2_with fail
  refine (long_any _ _).mono ?_
  rintro e w' ⟨rfl, rfl⟩
  rw [HL.out]
  go_wp2_with fail
  refine (cut_any _ _ _).mono ?_
  rintro e w' ⟨rfl, rfl⟩
  go_wp2_with fail
  refine (cut_any _ _ _).mono ?_
  rintro e w' ⟨rfl, rfl⟩
  go_wp2
  go_ret2
  exact ⟨rfl, rfl⟩
end
section
open Go.RowKit
theorem RowB.own {w : World} {base : Nat} {v : Value} {l : List Int} (h : w.ownsRow base 5 1 v l.length (u8C l)) (hu : ∀ x ∈ l, U8 x) {b : Nat} (hb : b ≤ base) : RowB w b v l.length := ⟨l, rfl, hu, (RowL.of_own h).mono hb⟩
theorem RowB.slice {w : World} {base n : Nat} {v : Value} (h : RowB w base v n) : ∃ A c l, v = .slice A n c ∧ n ≤ c ∧ l.length = n ∧ (∀ x ∈ l, U8 x) ∧ Reads w w.heap.size 1 A n (u8C l) := by
 obtain ⟨l, h1, h2, h3⟩ := h
 obtain ⟨A, c, e, hc, hr⟩ := h3.slice
 exact ⟨A, c, l, e, hc, h1, h2, hr⟩
section
variable {w w' : World} {base bm : Nat} {F G : Nat → Prop}
theorem context_any (h : MemAt w base F bm) : Calls prog 29 #[.pointer (some ⟨bm, 0, none⟩)] w fun e w' => ∃ A n c, e = .returned (.slice A n c) ∧ Below w.heap.size w w' := by
 obtain ⟨vc, vx, vf, nx, R⟩ := h.ex
 obtain ⟨A, c, l, rfl, hc, hl, hu, hr⟩ := R.ctx.slice
 have c1 : w.cell? ⟨bm, 1, none⟩ = some (.slice A nx c) := R.blk.cell 1
 have HR := Hd (And.intro hr (And.intro hl R.le))
 clear h R hc hl hu hr
 go_enter func29, ntmps29
 go_wp2_with fail
 refine (same_bytes A nx c w.heap.size l w HR.out.1 HR.out.2.1 (by have := HR.out.2.2; omega)).mono ?_
 rintro e w1 ⟨v, rfl, hr, hb⟩
 have HO := Hd hr
 have HB := Hd hb
 clear hr hb
 go_wp2
 go_ret
 rcases HO.out.2 with ⟨rfl, _⟩ | ⟨g, cap, cur, rfl, _⟩ <;> exact ⟨_, _, _, rfl, HB.out⟩
theorem sizF64 : (prog.info? 84).map (·.size) = some 64 := by kernel_rfl
def z64 : List Int := List.replicate 64 0
theorem zero64 : ∀ w : World, (zeroValue 84).run prog w = .ok (.agg (u8C z64).toArray) w := fun w => by kernel_rfl
theorem u8C_set (V : List Int) (i : Nat) (v : Int) : (u8C V).toArray.setIfInBounds i (.int .u8 v) = (u8C (V.set i v)).toArray := by
 unfold u8C
 rw [List.setIfInBounds_toArray, List.map_set]
def FrameP (w : World) (e : Ending) (w' : World) : Prop := ∃ l : List Int, l.length = 64 ∧ (∀ x ∈ l, U8 x) ∧ e = .returned (.agg (u8C l).toArray) ∧ Below w.heap.size w w'
theorem frame_any (h : MemAt w base F bm) : Calls prog 64 #[.pointer (some ⟨bm, 0, none⟩)] w (FrameP w) := by
 have zz := zero64
 obtain ⟨w1, hw1⟩ : ∃ z, (w.alloc (.cells (u8C z64).toArray 84)).alloc (.cells (u8C z64).toArray 84) = z := ⟨_, rfl⟩
 have hb : Below w.heap.size w w1 := by rw [← hw1]; exact ((Below.refl _ w).alloc (Nat.le_refl _) _).alloc (by simp) _
 obtain ⟨vc, vx, vf, nx, R⟩ := (h.below hb).ex
 obtain ⟨l, h1, h2, h3⟩ := R.frm
 obtain ⟨g, cap, rfl, _, _, hlt⟩ := h3.form (by omega)
 have HX2 := Hd (show Blk w1 w.heap.size 84 (u8C z64).toArray by rw [← hw1]; exact (Blk.new w _ _).alloc _)
 have HX3 := Hd (show Blk w1 (w.heap.size + 1) 84 (u8C z64).toArray by
  rw [← hw1]
  have := Blk.new (w.alloc (.cells (u8C z64).toArray 84)) 84 (u8C z64).toArray
  simpa using this)
 have hgl : ∀ j, j < 64 → ∃ x, w1.cell? ⟨g, j, none⟩ = some (.int .u8 x) ∧ U8 x := fun j hj => ⟨l[j], (h3.cell j (by omega)).trans (by unfold u8C; rw [List.getElem?_map, List.getElem?_eq_getElem (by omega)]; rfl), h2 _ (List.getElem_mem _)⟩
 have HGL := Hd hgl
 have HB := Hd hb
 have c2 : w1.cell? ⟨bm, 2, none⟩ = some (.slice (some ⟨g, 0, none⟩) 64 cap) := R.blk.cell 2
 have HC2 := Hd (And.intro c2 R.blk.lt)
 have hgo := R.fb g rfl
 have hgw : g < w.heap.size ∧ bm < w.heap.size := ⟨(h.fb g hgo.1).2, (h.fb bm R.own).2⟩
 obtain ⟨b2, hb2⟩ : ∃ k, w.heap.size = k := ⟨_, rfl⟩
 have HB2 := Hd hb2
 rw [hb2] at HX2 HX3 hgw
 clear h R h1 h2 h3 hgl hb hgo hlt
 go_enter func64, ntmps64
 go_wp2_with fail
 clear c2 hw1
 go_loopw [4] (fun i wr => ∃ (k : Nat) (V : List Int), k ≤ 64 ∧ i = .int .i64 (k : Int) ∧ Hid (V.length = 64 ∧ (∀ x ∈ V, U8 x) ∧ Blk wr (b2 + 1) 84 (u8C V).toArray ∧ Chg (fun q => q = b2 + 1) w1 wr)) (fun i _ => 64 - (intOf i).toNat)
 case atStart => exact ⟨0, z64, by omega, rfl, rfl, fun x hx => by rw [List.eq_of_mem_replicate hx]; unfold U8; omega, HX3.out, Chg.refl _ _⟩
 case round =>
  obtain ⟨k, V, hk, rfl, HV⟩ := hrel
  rename World => wr
  by_cases hlt : k < 64
  ·have c2 : wr.cell? ⟨bm, 2, none⟩ = some (.slice (some ⟨g, 0, none⟩) 64 cap) := (World.cell?_of_block (a := ⟨bm, 2, none⟩) (HV.out.2.2.2.block bm HC2.out.2 (by omega))).trans HC2.out.1
   obtain ⟨x, hx, hxu⟩ := HGL.out k hlt
   have hgs : g < w1.heap.size := by have := HX3.out.lt; omega
   have cx : wr.cell? ⟨g, k, none⟩ = some (.int .u8 x) := (World.cell?_of_block (a := ⟨g, k, none⟩) (HV.out.2.2.2.block g hgs (by omega))).trans hx
   have hlv := HV.out.1
   have cv : wr.cell? ⟨b2 + 1, k, none⟩ = some (.int .u8 (V.getD k 0)) := by
    rw [HV.out.2.2.1.cell k, List.getElem?_toArray]
    unfold u8C
    rw [List.getElem?_map, List.getD_eq_getElem?_getD, List.getElem?_eq_getElem (by omega)]
    rfl
   have fv := HV.out.2.2.1.frozen k
   have hch : Chg (fun q => q = b2 + 1) wr (wr.setCell ⟨b2 + 1, k, none⟩ (.int .u8 x)) := Chg.of_grown (row := some (b2 + 1)) ⟨rfl, rfl, rfl, by simp [World.setCell], fun i _ hne => Below.heap_setCell wr ⟨b2 + 1, k, none⟩ _ i (fun e => hne (by rw [e]))⟩ (fun q e => by injection e with e; exact .inl e.symm)
   have HN := Hd (show (V.set k x).length = 64 ∧ (∀ y ∈ V.set k x, U8 y) ∧ Blk (wr.setCell ⟨b2 + 1, k, none⟩ (.int .u8 x)) (b2 + 1) 84 (u8C (V.set k x)).toArray ∧ Chg (fun q => q = b2 + 1) w1 (wr.setCell ⟨b2 + 1, k, none⟩ (.int .u8 x)) from ⟨by rw [List.length_set]; exact hlv, fun y hy => (List.mem_or_eq_of_mem_set hy).elim (HV.out.2.1 y) (fun e => e ▸ hxu), by rw [← u8C_set]; exact HV.out.2.2.1.set_ k _, HV.out.2.2.2.trans hch (fun b q => .inl q)⟩)
   clear hch hx hxu hgs
   go_wp2
   generalize wr.setCell ⟨b2 + 1, k, none⟩ (.int .u8 x) = ws at HN ⊢
   clear c2 cx cv fv HV
   go_roundw
   case measure => first | (simp [intOf]; done) | (simp [intOf]; omega)
   case rel => exact ⟨k + 1, _, by omega, by go_num, HN.out⟩
  ·obtain rfl : k = 64 := by omega
   have HB3 := HV.out.2.2.1
   have HLV := Hd (show (u8C V).length = 64 by unfold u8C; rw [List.length_map]; exact HV.out.1)
   have HX2' := Hd (show Blk wr b2 84 (u8C z64).toArray from HV.out.2.2.2.blk HX2.out (by omega))
   have HBr := Hd (show Below w.heap.size w wr from HB.out.trans (HV.out.2.2.2.below (B := w.heap.size) (fun q e => by have := HB2.out; omega) HB.out.size))
   go_wp2_with (first
    | (refine wpList_load_at rfl 84 (.tmp 3) rfl ⟨b2 + 1, 0, none⟩ (by rfl) (u8C V) _ (blk_list HB3) underlying84 rfl (by rw [HLV.out]; exact sizF64) ?_)
    | (refine wpList_store_at rfl 84 (.tmp 2) (.tmp 21) rfl b2 0 84 _ (u8C V) (.agg (u8C V).toArray) HX2'.out (by rfl) (by rfl) rfl (by rw [HLV.out]; exact sizF64) (by rw [HLV.out]; simp [u8C, z64]) (u8_one _) ?_
       intro wq hBq hgq hsq
       have HBQ := Hd hBq
       have HGQ := Hd hgq
       clear hBq hgq hsq)
    | fail)
   have hov : overC (u8C z64) 0 (u8C V) = u8C V := by
    unfold overC
    rw [List.take_zero, List.nil_append, Nat.zero_add, List.drop_of_length_le (by rw [HLV.out]; simp [u8C, z64]), List.append_nil]
   have hx8 := HBQ.out
   rw [hov] at hx8
   have hrl := run_loadVar_at (P := prog) wq ⟨b2, 0, none⟩ 84 (u8C V) _ (blk_list hx8) underlying84 rfl (by rw [HLV.out]; exact sizF64)
   refine bodyPost_ret (v := .agg (u8C V).toArray) ?_ rfl ⟨V, HV.out.1, HV.out.2.1, rfl, HBr.out.grown HGQ.out HBr.out.size (fun k e => by injection e with e; have := HB2.out; omega)⟩
   simp [results, results64, Act.put, asAddr, Result.andThen, hrl]
theorem cells_z64 : madeCells (Value.int .u8 0).cells (64 * 1) = (u8C z64).toArray := by kernel_rfl
theorem make64 (w : World) : (Instr.makeSlice 25 (.int .i64 64) (.int .i64 64)).run prog w = .ok (.slice (some ⟨w.heap.size, 0, none⟩) 64 64) (w.alloc (.cells (u8C z64).toArray 5)) := by
 obtain ⟨iB, hiB, hzB, hsB, hbB⟩ := info_parts infB
 have h := run_make_rowN (P := prog) 25 5 iB _ underlying25 hiB hzB .i64 .i64 64 64 (by omega) (by rw [hbB]; omega) (by omega) w
 rw [hsB, cells_z64] at h
 exact h
theorem row64 {w : World} {base : Nat} (hb : base ≤ w.heap.size) : RowB (w.alloc (.cells (u8C z64).toArray 5)) base (.slice (some ⟨w.heap.size, 0, none⟩) 64 64) 64 := ⟨z64, rfl, fun x hx => by rw [List.eq_of_mem_replicate hx]; unfold U8; omega, rfl, .inr ⟨w.heap.size, 64, (u8C z64).toArray, rfl, hb, Blk.new w _ _, Nat.le_refl _, rfl, by decide⟩⟩
end
def MemNew (w : World) (e : Ending) (w' : World) : Prop := ∃ bm F, e = .returned (.tuple #[.pointer (some ⟨bm, 0, none⟩), .int .i64 0]) ∧ MemAt w' w.heap.size F bm ∧ Below w.heap.size w w'
theorem bytes_nil (w : World) : Calls prog 67 #[.slice none 0 0] w fun e w' => ∃ v, e = .returned v ∧ RowB w' w.heap.size v 0 ∧ Below w.heap.size w w' := by
 refine (same_bytes none 0 0 0 [] w Reads.none_ rfl (by omega)).mono ?_
 rintro e w' ⟨v, rfl, hr, hb⟩
 exact ⟨v, rfl, RowB.own (l := []) hr (by simp) (Nat.le_refl _), hb⟩
theorem bytes_row (A : Option Addr) (n c B : Nat) (l : List Int) (w : World) (hr : Reads w B 1 A n (u8C l)) (hl : l.length = n) (hn : n < 1099511627776) (hu : ∀ x ∈ l, U8 x) : Calls prog 67 #[.slice A n c] w fun e w' => ∃ v, e = .returned v ∧ RowB w' w.heap.size v n ∧ Below w.heap.size w w' := by
 refine (same_bytes A n c B l w hr hl hn).mono ?_
 rintro e w' ⟨v, rfl, hr, hb⟩
 have := RowB.own hr hu (Nat.le_refl _)
 rw [hl] at this
 exact ⟨v, rfl, this, hb⟩
end
section
open Go.RowKit
theorem E_bld {P : Program} {ops : Array Oper} {Q : Exit → Act → World → Prop} {md : Region.Mode} {T S : World → Prop} {late : List Nat} {fuel : Nat} {listed : Array Bool} {a : Act} {w : World} (i : Nat) (d : Option Tmp) (t : TypeId) (fs : Array (Nat × Operand)) (vs : Array (Nat × Value)) (v : Value) (ho : opAt ops i = some (d, .build t fs)) (hc : checkE md ops late listed i false = true) (hw : wantAt ops i a = some true)
  (hQ : ∀ c a w, Q (.panic c) (a.put d v) w → Q (.panic c) a w) (hx : (fs.map fun (i, x) => (i, a.eval x)) = vs) (hr : ∀ w, (Instr.build t vs).run P w = .ok v w)
  (hS : St T S late listed w) (h : wpAnyE P md ops Q T S late fuel (listed.setIfInBounds i true) (a.put d v) w) : wpAnyE P md ops Q T S late (fuel + 1) listed a w :=
 E_any false i d _ _ ho hc hw hQ (fun o e w _ => by
  unfold execOp
  simp only [e, hx, Sem.run_bind, hr, Result.andThen_ok, Sem.run_pure]) hS h
theorem RowB.base {w : World} {base b n : Nat} {v : Value} (h : RowB w base v n) (hb : b ≤ base) : RowB w b v n := by
 obtain ⟨l, h1, h2, h3⟩ := h
 exact ⟨l, h1, h2, h3.mono hb⟩
theorem build_mem (A1 A2 A3 : Option Addr) (n1 c1 n2 c2 n3 c3 : Nat) (w : World) : (Instr.build 142 #[(0, .slice A1 n1 c1), (1, .slice A2 n2 c2), (2, .slice A3 n3 c3)]).run prog w = .ok (.agg #[.slice A1 n1 c1, .slice A2 n2 c2, .slice A3 n3 c3, .slice none 0 0]) w := run_build w 142 _ _ (by kernel_rfl)
theorem mem_made {w W W' : World} {va vb vc : Value} {n : Nat} (hB : Below w.heap.size w W) (ha : RowB W w.heap.size va 0) (hb : RowB W w.heap.size vb n) (hc : RowB W w.heap.size vc 64) (hn : n ≤ 256) (hx : Blk W' W.heap.size 142 #[va, vb, vc, .slice none 0 0]) (hw : Below W.heap.size W W') : MemAt W' w.heap.size (fun k => w.heap.size ≤ k ∧ k < W'.heap.size) W.heap.size ∧ Below w.heap.size w W' := by
 have hlt := hx.lt
 have own : ∀ {v : Value} {m : Nat}, RowB W w.heap.size v m → ∀ b, v.ownBlock = some b → (w.heap.size ≤ b ∧ b < W'.heap.size) ∧ b ≠ W.heap.size := fun h b q => by have := h.ge b q; omega
 exact ⟨⟨⟨va, vb, vc, n, hx, ha.below hw, hb.below hw, hc.below hw, own ha, own hb, own hc, hn, hB.size, hlt⟩, fun b q => q⟩, hB.trans (hw.mono hB.size)⟩
theorem mem_new (A : Option Addr) (n c : Nat) (l : List Int) (w : World) (hr : Reads w w.heap.size 1 A n (u8C l)) (hl : l.length = n) (hn : n ≤ 256) (hu : ∀ x ∈ l, U8 x) : Calls prog 57 #[.slice A n c, .slice none 0 0, .bool false] w (MemNew w) := by
 have HR := Hd hr
 have HL := Hd (And.intro hl (And.intro hn hu))
 clear hr hl hu
 go_enter func57, ntmps57
 go_wp2
 refine wp_region_E (fun _ => True) (fun _ => True) [] (by kernel_rfl) ?_
 have HB := Hd ((Below.refl w.heap.size w).drew)
 generalize w.drew = Wd at HB ⊢
 refine em 0 (.slice none 0 0) (.both trivial trivial) ?_
 refine em 2 (.slice A n c) (.both trivial trivial) ?_
 refine E_two 1 4 (by kernel_rfl) ?_ ?_
 ·refine StepE.of 1 (some 18) _ rfl (by rfl) fun o K h2 h3 hKK => ?_
  unfold Oper.wp execOp
  simp only [h3]
  go_simp
  refine (bytes_nil _).mono ?_
  rintro e wqa ⟨va, rfl, hr, hb⟩
  have Ha := Hd (hr.base HB.out.size)
  replace HB := Hd (HB.out.trans (hb.mono HB.out.size))
  clear hr hb
  dsimp only
  refine hKK _ _ (.both trivial trivial) ?_
  clear hKK h2 h3 K o
  try simp only [pt, pn, sL]
  refine E_two 3 4 (by kernel_rfl) ?_ ?_
  ·refine StepE.of 3 (some 20) _ rfl (by rfl) fun o K h2 h3 hKK => ?_
   unfold Oper.wp execOp
   simp only [h3]
   go_simp
   refine (bytes_row A n c w.heap.size l _ (HR.out.below HB.out) HL.out.1 (by have := HL.out.2.1; omega) HL.out.2.2).mono ?_
   rintro e wqab ⟨vb, rfl, hr, hb⟩
   have Hb := Hd (hr.base HB.out.size)
   replace Ha := Hd (Ha.out.below hb)
   replace HB := Hd (HB.out.trans (hb.mono HB.out.size))
   clear hr hb
   dsimp only
   refine hKK _ _ (.both trivial trivial) ?_
   clear hKK h2 h3 K o
   try simp only [pt, pn, sL]
   refine E_one 4 (by kernel_rfl) ?_
   have hr := row64 (w := wqab) HB.out.size
   have hb : Below wqab.heap.size wqab (wqab.alloc (.cells (u8C z64).toArray 5)) := (Below.refl _ _).alloc (Nat.le_refl _) _
   refine StepE.run 4 (some 21) _ (.slice (some ⟨wqab.heap.size, 0, none⟩) 64 64) (wqab.alloc (.cells (u8C z64).toArray 5)) rfl (by rfl) (fun o e => by have hm := make64; unfold execOp; simp only [e]; go_simp) (.both trivial trivial) ?_
   simp only [pt, pn, sL]
   obtain ⟨vc, hvc⟩ : ∃ q, Value.slice (some ⟨wqab.heap.size, 0, none⟩) 64 64 = q := ⟨_, rfl⟩
   rw [hvc] at hr ⊢
   clear hvc
   obtain ⟨wqabc, hnw⟩ : ∃ q, wqab.alloc (.cells (u8C z64).toArray 5) = q := ⟨_, rfl⟩
   rw [hnw] at hr hb ⊢
   clear hnw
   have Hc := Hd hr
   replace Ha := Hd (Ha.out.below hb)
   replace Hb := Hd (Hb.out.below hb)
   replace HB := Hd (HB.out.trans (hb.mono HB.out.size))
   clear hr hb
   obtain ⟨A1, c1, _, rfl, _⟩ := Ha.out.slice
   obtain ⟨A2, c2, _, rfl, _⟩ := Hb.out.slice
   obtain ⟨A3, c3, _, rfl, _⟩ := Hc.out.slice
   refine E_bld 5 (some 22) _ _ #[(0, .slice A1 0 c1), (1, .slice A2 n c2), (2, .slice A3 64 c3)] (.agg #[.slice A1 0 c1, .slice A2 n c2, .slice A3 64 c3, .slice none 0 0]) rfl (by kernel_rfl) (by rfl) (fun _ _ _ h => h) (by simp only [List.map_toArray, List.map_cons, List.map_nil] <;> rfl) (build_mem _ _ _ _ _ _ _ _ _) (.both trivial trivial) ?_
   simp only [pt, pn, sL]
   have hx := Blk.new wqabc 142 #[.slice A1 0 c1, .slice A2 n c2, .slice A3 64 c3, .slice none 0 0]
   have hb : Below wqabc.heap.size wqabc (wqabc.alloc (.cells #[.slice A1 0 c1, .slice A2 n c2, .slice A3 64 c3, .slice none 0 0] 142)) := (Below.refl _ _).alloc (Nat.le_refl _) _
   refine E_one 6 (by kernel_rfl) (StepE.run 6 (some 23) _ (.pointer (some ⟨wqabc.heap.size, 0, none⟩)) (wqabc.alloc (.cells #[.slice A1 0 c1, .slice A2 n c2, .slice A3 64 c3, .slice none 0 0] 142)) rfl (by rfl) (fun o e => by unfold execOp; simp only [e]; go_simp) (.both trivial trivial) ?_)
   simp only [pt, pn, sL]
   refine E_one 7 (by kernel_rfl) (StepE.assign 7 (some 8) _ (.pointer (some ⟨wqabc.heap.size, 0, none⟩)) rfl (by rfl) (by rfl) (.both trivial trivial) ?_)
   simp only [pt, pn, sL]
   refine wpAnyE_done (by kernel_rfl) ?_ _
   have HE := Hd (mem_made HB.out Ha.out Hb.out Hc.out HL.out.2.1 hx hb)
   clear hx hb
   go_wp2
   go_ret2
   exact ⟨_, _, rfl, HE.out.1, HE.out.2⟩
  ·have hr := row64 (w := wqa) HB.out.size
   have hb : Below wqa.heap.size wqa (wqa.alloc (.cells (u8C z64).toArray 5)) := (Below.refl _ _).alloc (Nat.le_refl _) _
   refine StepE.run 4 (some 21) _ (.slice (some ⟨wqa.heap.size, 0, none⟩) 64 64) (wqa.alloc (.cells (u8C z64).toArray 5)) rfl (by rfl) (fun o e => by have hm := make64; unfold execOp; simp only [e]; go_simp) (.both trivial trivial) ?_
   simp only [pt, pn, sL]
   obtain ⟨vc, hvc⟩ : ∃ q, Value.slice (some ⟨wqa.heap.size, 0, none⟩) 64 64 = q := ⟨_, rfl⟩
   rw [hvc] at hr ⊢
   clear hvc
   obtain ⟨wqac, hnw⟩ : ∃ q, wqa.alloc (.cells (u8C z64).toArray 5) = q := ⟨_, rfl⟩
   rw [hnw] at hr hb ⊢
   clear hnw
   have Hc := Hd hr
   replace Ha := Hd (Ha.out.below hb)
   replace HB := Hd (HB.out.trans (hb.mono HB.out.size))
   clear hr hb
   refine E_one 3 (by kernel_rfl) ?_
   refine StepE.of 3 (some 20) _ rfl (by rfl) fun o K h2 h3 hKK => ?_
   unfold Oper.wp execOp
   simp only [h3]
   go_simp
   refine (bytes_row A n c w.heap.size l _ (HR.out.below HB.out) HL.out.1 (by have := HL.out.2.1; omega) HL.out.2.2).mono ?_
   rintro e wqabc ⟨vb, rfl, hr, hb⟩
   have Hb := Hd (hr.base HB.out.size)
   replace Ha := Hd (Ha.out.below hb)
   replace Hc := Hd (Hc.out.below hb)
   replace HB := Hd (HB.out.trans (hb.mono HB.out.size))
   clear hr hb
   dsimp only
   refine hKK _ _ (.both trivial trivial) ?_
   clear hKK h2 h3 K o
   try simp only [pt, pn, sL]
   obtain ⟨A1, c1, _, rfl, _⟩ := Ha.out.slice
   obtain ⟨A2, c2, _, rfl, _⟩ := Hb.out.slice
   obtain ⟨A3, c3, _, rfl, _⟩ := Hc.out.slice
   refine E_bld 5 (some 22) _ _ #[(0, .slice A1 0 c1), (1, .slice A2 n c2), (2, .slice A3 64 c3)] (.agg #[.slice A1 0 c1, .slice A2 n c2, .slice A3 64 c3, .slice none 0 0]) rfl (by kernel_rfl) (by rfl) (fun _ _ _ h => h) (by simp only [List.map_toArray, List.map_cons, List.map_nil] <;> rfl) (build_mem _ _ _ _ _ _ _ _ _) (.both trivial trivial) ?_
   simp only [pt, pn, sL]
   have hx := Blk.new wqabc 142 #[.slice A1 0 c1, .slice A2 n c2, .slice A3 64 c3, .slice none 0 0]
   have hb : Below wqabc.heap.size wqabc (wqabc.alloc (.cells #[.slice A1 0 c1, .slice A2 n c2, .slice A3 64 c3, .slice none 0 0] 142)) := (Below.refl _ _).alloc (Nat.le_refl _) _
   refine E_one 6 (by kernel_rfl) (StepE.run 6 (some 23) _ (.pointer (some ⟨wqabc.heap.size, 0, none⟩)) (wqabc.alloc (.cells #[.slice A1 0 c1, .slice A2 n c2, .slice A3 64 c3, .slice none 0 0] 142)) rfl (by rfl) (fun o e => by unfold execOp; simp only [e]; go_simp) (.both trivial trivial) ?_)
   simp only [pt, pn, sL]
   refine E_one 7 (by kernel_rfl) (StepE.assign 7 (some 8) _ (.pointer (some ⟨wqabc.heap.size, 0, none⟩)) rfl (by rfl) (by rfl) (.both trivial trivial) ?_)
   simp only [pt, pn, sL]
   refine wpAnyE_done (by kernel_rfl) ?_ _
   have HE := Hd (mem_made HB.out Ha.out Hb.out Hc.out HL.out.2.1 hx hb)
   clear hx hb
   go_wp2
   go_ret2
   exact ⟨_, _, rfl, HE.out.1, HE.out.2⟩
 ·have hr := row64 (w := Wd) HB.out.size
  have hb : Below Wd.heap.size Wd (Wd.alloc (.cells (u8C z64).toArray 5)) := (Below.refl _ _).alloc (Nat.le_refl _) _
  refine StepE.run 4 (some 21) _ (.slice (some ⟨Wd.heap.size, 0, none⟩) 64 64) (Wd.alloc (.cells (u8C z64).toArray 5)) rfl (by rfl) (fun o e => by have hm := make64; unfold execOp; simp only [e]; go_simp) (.both trivial trivial) ?_
  simp only [pt, pn, sL]
  obtain ⟨vc, hvc⟩ : ∃ q, Value.slice (some ⟨Wd.heap.size, 0, none⟩) 64 64 = q := ⟨_, rfl⟩
  rw [hvc] at hr ⊢
  clear hvc
  obtain ⟨wqc, hnw⟩ : ∃ q, Wd.alloc (.cells (u8C z64).toArray 5) = q := ⟨_, rfl⟩
  rw [hnw] at hr hb ⊢
  clear hnw
  have Hc := Hd hr
  replace HB := Hd (HB.out.trans (hb.mono HB.out.size))
  clear hr hb
  refine E_one 1 (by kernel_rfl) ?_
  refine StepE.of 1 (some 18) _ rfl (by rfl) fun o K h2 h3 hKK => ?_
  unfold Oper.wp execOp
  simp only [h3]
  go_simp
  refine (bytes_nil _).mono ?_
  rintro e wqac ⟨va, rfl, hr, hb⟩
  have Ha := Hd (hr.base HB.out.size)
  replace Hc := Hd (Hc.out.below hb)
  replace HB := Hd (HB.out.trans (hb.mono HB.out.size))
  clear hr hb
  dsimp only
  refine hKK _ _ (.both trivial trivial) ?_
  clear hKK h2 h3 K o
  try simp only [pt, pn, sL]
  refine E_one 3 (by kernel_rfl) ?_
  refine StepE.of 3 (some 20) _ rfl (by rfl) fun o K h2 h3 hKK => ?_
  unfold Oper.wp execOp
  simp only [h3]
  go_simp
  refine (bytes_row A n c w.heap.size l _ (HR.out.below HB.out) HL.out.1 (by have := HL.out.2.1; omega) HL.out.2.2).mono ?_
  rintro e wqabc ⟨vb, rfl, hr, hb⟩
  have Hb := Hd (hr.base HB.out.size)
  replace Hc := Hd (Hc.out.below hb)
  replace Ha := Hd (Ha.out.below hb)
  replace HB := Hd (HB.out.trans (hb.mono HB.out.size))
  clear hr hb
  dsimp only
  refine hKK _ _ (.both trivial trivial) ?_
  clear hKK h2 h3 K o
  try simp only [pt, pn, sL]
  obtain ⟨A1, c1, _, rfl, _⟩ := Ha.out.slice
  obtain ⟨A2, c2, _, rfl, _⟩ := Hb.out.slice
  obtain ⟨A3, c3, _, rfl, _⟩ := Hc.out.slice
  refine E_bld 5 (some 22) _ _ #[(0, .slice A1 0 c1), (1, .slice A2 n c2), (2, .slice A3 64 c3)] (.agg #[.slice A1 0 c1, .slice A2 n c2, .slice A3 64 c3, .slice none 0 0]) rfl (by kernel_rfl) (by rfl) (fun _ _ _ h => h) (by simp only [List.map_toArray, List.map_cons, List.map_nil] <;> rfl) (build_mem _ _ _ _ _ _ _ _ _) (.both trivial trivial) ?_
  simp only [pt, pn, sL]
  have hx := Blk.new wqabc 142 #[.slice A1 0 c1, .slice A2 n c2, .slice A3 64 c3, .slice none 0 0]
  have hb : Below wqabc.heap.size wqabc (wqabc.alloc (.cells #[.slice A1 0 c1, .slice A2 n c2, .slice A3 64 c3, .slice none 0 0] 142)) := (Below.refl _ _).alloc (Nat.le_refl _) _
  refine E_one 6 (by kernel_rfl) (StepE.run 6 (some 23) _ (.pointer (some ⟨wqabc.heap.size, 0, none⟩)) (wqabc.alloc (.cells #[.slice A1 0 c1, .slice A2 n c2, .slice A3 64 c3, .slice none 0 0] 142)) rfl (by rfl) (fun o e => by unfold execOp; simp only [e]; go_simp) (.both trivial trivial) ?_)
  simp only [pt, pn, sL]
  refine E_one 7 (by kernel_rfl) (StepE.assign 7 (some 8) _ (.pointer (some ⟨wqabc.heap.size, 0, none⟩)) rfl (by rfl) (by rfl) (.both trivial trivial) ?_)
  simp only [pt, pn, sL]
  refine wpAnyE_done (by kernel_rfl) ?_ _
  have HE := Hd (mem_made HB.out Ha.out Hb.out Hc.out HL.out.2.1 hx hb)
  clear hx hb
  go_wp2
  go_ret2
  exact ⟨_, _, rfl, HE.out.1, HE.out.2⟩
end
end Go.Proofs.YtepagfkkjlbipaaGreat
