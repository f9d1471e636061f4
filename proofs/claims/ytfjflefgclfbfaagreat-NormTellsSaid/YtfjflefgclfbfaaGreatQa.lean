/-
  The document's Do and Holds, whole. Conditions: those written in each statement.
  The document's pool in memory; New, has, Get, parts. Conditions: those written in each statement.
  The document's parts of a term. Conditions: those written in each statement.
  The document's may: a term that is no variable. Conditions: those written in each statement.
  The document's pool behind some steps; what a maker of terms answers. Conditions: those written in each statement.
-/
import Derived.Test.YtfjflefgclfbfaaGreatRa
import Derived.Test.YtfjflefgclfbfaaGreatKb
import Derived.Test.YtfjflefgclfbfaaGreatNa
import Derived.Test.YtfjflefgclfbfaaGreatRf
import Derived.Deep.CutRange
import Derived.Deep.CutBlock
section
namespace Go.Proofs.YtfjflefgclfbfaaGreat
open Go.RowKit
set_option linter.unusedVariables false
set_option linter.unusedSimpArgs false
set_option maxRecDepth 100000
theorem rdo_yes {op x : Int} (a b : Int) (hA : U64 a) (hB : U64 b) (w : World) (h : doOk op x = true) : Calls Tryz.prog 74 #[.int .i8 op, .int .i8 x, .int .u64 a, .int .u64 b] w fun e w' => e = .returned (.tuple #[.int .u64 (doU op x a b), .int .i64 0]) ∧ w = w' := by
  obtain ⟨hx, h0, h1⟩ := doOk_yes h
  have hops : op = 0 ∨ op = 1 ∨ op = 2 ∨ op = 3 ∨ op = 4 ∨ op = 5 ∨ op = 6 ∨ op = 7 ∨ op = 8 ∨ op = 9 ∨ op = 10 ∨ op = 11 ∨ op = 12 := by omega
  rcases hx with rfl | rfl
  · rcases hops with rfl | rfl | rfl | rfl | rfl | rfl | rfl | rfl | rfl | rfl | rfl | rfl | rfl
    · exact rdo_0_32 a b hA hB w
    · exact rdo_1_32 a b hA hB w
    · exact rdo_2_32 a b hA hB w
    · exact rdo_3_32 a b hA hB w
    · exact rdo_4_32 a b hA hB w
    · exact rdo_5_32 a b hA hB w
    · exact rdo_6_32 a b hA hB w
    · exact rdo_7_32 a b hA hB w
    · exact rdo_8_32 a b hA hB w
    · exact rdo_9_32 a b hA hB w
    · exact rdo_10_32 a b hA hB w
    · exact rdo_11_32 a b hA hB w
    · exact rdo_12_32 a b hA hB w
  · rcases hops with rfl | rfl | rfl | rfl | rfl | rfl | rfl | rfl | rfl | rfl | rfl | rfl | rfl
    · exact rdo_0_64 a b hA hB w
    · exact rdo_1_64 a b hA hB w
    · exact rdo_2_64 a b hA hB w
    · exact rdo_3_64 a b hA hB w
    · exact rdo_4_64 a b hA hB w
    · exact rdo_5_64 a b hA hB w
    · exact rdo_6_64 a b hA hB w
    · exact rdo_7_64 a b hA hB w
    · exact rdo_8_64 a b hA hB w
    · exact rdo_9_64 a b hA hB w
    · exact rdo_10_64 a b hA hB w
    · exact rdo_11_64 a b hA hB w
    · exact rdo_12_64 a b hA hB w
theorem rholds_yes {cc x : Int} (a b : Int) (hA : U64 a) (hB : U64 b) (w : World) (h : holdsOk cc x = true) : Calls Tryz.prog 81 #[.int .i8 cc, .int .i8 x, .int .u64 a, .int .u64 b] w fun e w' => e = .returned (.tuple #[.bool (holdsU cc x a b), .int .i64 0]) ∧ w = w' := by
  obtain ⟨hx, h0, h1⟩ := holdsOk_yes h
  have hops : cc = 0 ∨ cc = 1 ∨ cc = 2 ∨ cc = 3 ∨ cc = 4 ∨ cc = 5 ∨ cc = 6 ∨ cc = 7 ∨ cc = 8 ∨ cc = 9 ∨ cc = 10 := by omega
  rcases hx with rfl | rfl
  · rcases hops with rfl | rfl | rfl | rfl | rfl | rfl | rfl | rfl | rfl | rfl | rfl
    · exact rholds_0_32 a b hA hB w
    · exact rholds_1_32 a b hA hB w
    · exact rholds_2_32 a b hA hB w
    · exact rholds_3_32 a b hA hB w
    · exact rholds_4_32 a b hA hB w
    · exact rholds_5_32 a b hA hB w
    · exact rholds_6_32 a b hA hB w
    · exact rholds_7_32 a b hA hB w
    · exact rholds_8_32 a b hA hB w
    · exact rholds_9_32 a b hA hB w
    · exact rholds_10_32 a b hA hB w
  · rcases hops with rfl | rfl | rfl | rfl | rfl | rfl | rfl | rfl | rfl | rfl | rfl
    · exact rholds_0_64 a b hA hB w
    · exact rholds_1_64 a b hA hB w
    · exact rholds_2_64 a b hA hB w
    · exact rholds_3_64 a b hA hB w
    · exact rholds_4_64 a b hA hB w
    · exact rholds_5_64 a b hA hB w
    · exact rholds_6_64 a b hA hB w
    · exact rholds_7_64 a b hA hB w
    · exact rholds_8_64 a b hA hB w
    · exact rholds_9_64 a b hA hB w
    · exact rholds_10_64 a b hA hB w
theorem rdo_no {op x : Int} (a b : Int) (w : World) (h : doOk op x = false) : Calls Tryz.prog 74 #[.int .i8 op, .int .i8 x, .int .u64 a, .int .u64 b] w fun e w' => e = .returned (.tuple #[.int .u64 0, .int .i64 2]) ∧ w = w' := by
  have h' := doOk_no h
  clear h
  cases h1 : decide (op < 0)
  · cases h2 : decide (12 < op)
    · have hl : longB x = false := by
        simp at h1 h2
        rcases h' with q | q | q
        · omega
        · omega
        · exact q
      clear h'
      go_enter Tryz.func74, Tryz.ntmps74
      go_wp2_with fail
      refine (rlong_any _ _).mono ?_
      rintro e w' ⟨rfl, rfl⟩
      rw [hl]
      go_wp2
      go_ret2
      exact ⟨rfl, rfl⟩
    · clear h'
      go_enter Tryz.func74, Tryz.ntmps74
      go_wp2
      go_ret2
      exact ⟨rfl, rfl⟩
  · clear h'
    go_enter Tryz.func74, Tryz.ntmps74
    go_wp2
    go_ret2
    exact ⟨rfl, rfl⟩
theorem rholds_no {op x : Int} (a b : Int) (w : World) (h : holdsOk op x = false) : Calls Tryz.prog 81 #[.int .i8 op, .int .i8 x, .int .u64 a, .int .u64 b] w fun e w' => e = .returned (.tuple #[.bool false, .int .i64 2]) ∧ w = w' := by
  have h' := holdsOk_no h
  clear h
  cases h1 : decide (op < 0)
  · cases h2 : decide (10 < op)
    · have hl : longB x = false := by
        simp at h1 h2
        rcases h' with q | q | q
        · omega
        · omega
        · exact q
      clear h'
      go_enter Tryz.func81, Tryz.ntmps81
      go_wp2_with fail
      refine (rlong_any _ _).mono ?_
      rintro e w' ⟨rfl, rfl⟩
      rw [hl]
      go_wp2
      go_ret2
      exact ⟨rfl, rfl⟩
    · clear h'
      go_enter Tryz.func81, Tryz.ntmps81
      go_wp2
      go_ret2
      exact ⟨rfl, rfl⟩
  · clear h'
    go_enter Tryz.func81, Tryz.ntmps81
    go_wp2
    go_ret2
    exact ⟨rfl, rfl⟩
end Go.Proofs.YtfjflefgclfbfaaGreat
end
section
namespace Go.Proofs.YtfjflefgclfbfaaGreat
open Go.RowKit
set_option linter.unusedVariables false
set_option linter.unusedSimpArgs false
set_option maxRecDepth 100000
/-- A pool of the document's, in memory; F: the blocks that are its own. -/
structure RefAt (w : World) (base : Nat) (F : Nat → Prop) (g : Nat) (p : PS) : Prop where
  ex : ∃ ls ds, Blk w g 53 #[ls, ds] ∧ w.ownsRow base 67 7 ls p.T.length (p.T.flatMap TD.cells) ∧ w.ownsRow base 3 1 ds p.T.length (p.D.map (Value.int .i64)) ∧ F g ∧ (∀ b, ls.ownBlock = some b → F b) ∧ (∀ b, ds.ownBlock = some b → F b)
  wf : WfP p
  rng : ∀ t ∈ p.T, t.wf
  fb : ∀ b, F b → base ≤ b ∧ b < w.heap.size
section
variable {w w' : World} {base g : Nat} {F G : Nat → Prop} {p : PS}
theorem RefAt.chg (h : RefAt w base F g p) (hc : Chg G w w') (hd : ∀ b, F b → ¬ G b) : RefAt w' base F g p := by
  obtain ⟨ls, ds, h1, h2, h3, f1, f4, f5⟩ := h.ex
  exact ⟨⟨ls, ds, hc.blk h1 (hd _ f1), hc.own h2 (fun b q => hd _ (f4 b q)), hc.own h3 (fun b q => hd _ (f5 b q)), f1, f4, f5⟩, h.wf, h.rng, fun b q => ⟨(h.fb b q).1, Nat.lt_of_lt_of_le (h.fb b q).2 hc.size⟩⟩
theorem RefAt.below (h : RefAt w base F g p) (hb : Below w.heap.size w w') : RefAt w' base F g p := h.chg (G := fun _ => False) (.of_below hb) (fun _ _ q => q)
theorem RefAt.view (h : RefAt w base F g p) : ∃ A c D d, w.cell? ⟨g, 0, none⟩ = some (.slice A p.T.length c) ∧ p.T.length ≤ c ∧ Reads w w.heap.size 7 A p.T.length (p.T.flatMap TD.cells) ∧
    w.cell? ⟨g, 1, none⟩ = some (.slice D p.T.length d) ∧ p.T.length ≤ d ∧ Reads w w.heap.size 1 D p.T.length (p.D.map (Value.int .i64)) := by
  obtain ⟨ls, ds, h1, h2, h3, _⟩ := h.ex
  obtain ⟨A, c, rfl, h4, h5⟩ := (RowL.of_own h2).slice
  obtain ⟨D, d, rfl, h6, h7⟩ := (RowL.of_own h3).slice
  exact ⟨A, c, D, d, h1.cell 0, h4, h5, h1.cell 1, h6, h7⟩
theorem RefAt.few (h : RefAt w base F g p) : p.T.length ≤ 4000 := h.wf.few
theorem RefAt.at_ (h : RefAt w base F g p) {k : Nat} (hk : k < p.T.length) : ∃ ad c t, w.cell? ⟨g, 0, none⟩ = some (.slice (some ad) p.T.length c) ∧ p.T.length ≤ c ∧ p.T[k]? = some t ∧ t.wf ∧ (∀ j u, t.cells[j]? = some u → w.cell? ((ad.add (k * 7)).add j) = some u) := by
  obtain ⟨A, c, D, d, h1, h2, h3, _⟩ := h.view
  obtain ⟨ad, rfl, hb, hc⟩ := h3.2 (by omega)
  have ht : p.T[k]? = some p.T[k] := List.getElem?_eq_getElem hk
  refine ⟨ad, c, _, h1, h2, ht, h.rng _ (List.mem_of_getElem? ht), fun j u hu => ?_⟩
  rw [add_of_add]
  exact hc _ u (flat_at TD.cells 7 p.T (fun _ _ => rfl) k j _ u ht hu)
theorem rhas_any (k : Int) (h : RefAt w base F g p) : Calls Tryz.prog 88 #[.pointer (some ⟨g, 0, none⟩), .int .i64 k] w fun e w' => e = .returned (.bool (hasB p.T k)) ∧ w = w' := by
  obtain ⟨A, c, D, d, h1, h2, _, h4, h5, _⟩ := h.view
  have hf := h.few
  obtain ⟨n, hn⟩ : ∃ n, p.T.length = n := ⟨_, rfl⟩
  have HB := hide (show hasB p.T k = (decide (0 ≤ k) && decide (k < (n : Int))) by unfold hasB; rw [hn])
  rw [hn] at h1 h2 hf
  clear hn h h4 h5
  cases hk : decide (0 ≤ k)
  · go_enter Tryz.func88, Tryz.ntmps88
    go_wp2
    go_ret
    exact ⟨by rw [HB.out, hk]; rfl, rfl⟩
  · go_enter Tryz.func88, Tryz.ntmps88
    go_wp2
    go_ret
    exact ⟨by rw [HB.out, hk]; rfl, rfl⟩
theorem rget_none {k : Int} (h : RefAt w base F g p) (hk : hasB p.T k = false) : Calls Tryz.prog 27 #[.pointer (some ⟨g, 0, none⟩), .int .i64 k] w fun e w' => e = .returned (.tuple #[termV zeroT, .int .i64 2]) ∧ Below w.heap.size w w' := by
  have H := hide h
  have HH := hide hk
  clear h hk
  go_enter Tryz.func27, Tryz.ntmps27
  go_wp2_with fail
  refine (rhas_any k (H.out.below ((Below.refl _ _).alloc (Nat.le_refl _) _))).mono ?_
  rintro e w' ⟨rfl, rfl⟩
  rw [HH.out]
  go_wp2
  exact bodyPost_ret (v := .tuple #[termV zeroT, .int .i64 2]) (by simp [results, Tryz.results27, go_sem, termV, zeroT, TD.cells]) rfl ⟨rfl, (Below.refl _ _).alloc (Nat.le_refl _) _⟩
theorem rget_any {k : Nat} {t : TD} (h : RefAt w base F g p) (ht : p.T[k]? = some t) : Calls Tryz.prog 27 #[.pointer (some ⟨g, 0, none⟩), .int .i64 k] w fun e w' => e = .returned (.tuple #[termV t, .int .i64 0]) ∧ Below w.heap.size w w' := by
  have hk : k < p.T.length := (List.getElem?_eq_some_iff.1 ht).1
  have H1 := h.below ((Below.refl _ _).alloc (Nat.le_refl _) (.cells #[.int .i8 0, .int .i8 0, .int .i8 0, .int .u64 0, .int .i64 0, .int .i64 0, .int .i64 0] 67))
  obtain ⟨ad, c, t', h1, h2, ht', _, hc⟩ := H1.at_ hk
  obtain rfl : t = t' := by rw [ht] at ht'; exact Option.some.inj ht'
  have H := hide H1
  have hh : hasB p.T k = true := by unfold hasB; simp; exact hk
  have HH := hide hh
  have hf := h.few
  obtain ⟨n, hn⟩ : ∃ n, p.T.length = n := ⟨_, rfl⟩
  rw [hn] at h1 h2 hk hf
  have HC := hide hc
  clear hn h ht' ht hh H1 hc
  have hkd : k < c := by omega
  go_enter Tryz.func27, Tryz.ntmps27
  go_wp2_with fail
  refine (rhas_any k H.out).mono ?_
  rintro e w' ⟨rfl, rfl⟩
  rw [HH.out]
  go_wp2_with (first
    | (refine wpList_load_at rfl 67 (.tmp 19) rfl (ad.add (k * 7)) (by rfl) t.lit _ HC.out Tryz.underlying67 rfl sizT ?_)
    | fail)
  exact bodyPost_ret (v := .tuple #[termV t, .int .i64 0]) (by simp [results, Tryz.results27, go_sem, termV, TD.cells]) rfl ⟨rfl, ((Below.refl _ _).alloc (Nat.le_refl _) _)⟩
/-- The term at a number, and whether it is there. -/
theorem rget_at (k : Int) (w : World) (h : RefAt w base F g p) : Calls Tryz.prog 27 #[.pointer (some ⟨g, 0, none⟩), .int .i64 k] w fun e w' => e = .returned (.tuple #[termV (atP p.T k), .int .i64 (if hasB p.T k = true then 0 else 2)]) ∧ Below w.heap.size w w' := by
  cases hb : hasB p.T k
  · have e1 : atP p.T k = zeroT := by unfold atP; rw [hb]; rfl
    rw [e1]
    exact rget_none h hb
  · have hb2 := hb
    unfold hasB at hb2
    simp at hb2
    obtain ⟨n, rfl⟩ : ∃ n : Nat, k = (n : Int) := ⟨k.toNat, by omega⟩
    have ht : p.T[n]? = some (atP p.T (n : Int)) := by
      unfold atP
      rw [if_pos hb, List.getD_eq_getElem?_getD, show ((n : Int)).toNat = n by omega, List.getElem?_eq_getElem (by omega)]
      rfl
    exact rget_any h ht
end
theorem rbuild_pool (w : World) : (Instr.build 53 #[]).run Tryz.prog w = .ok (.agg #[.slice none 0 0, .slice none 0 0]) w := run_build w 53 _ _ (by kernel_rfl)
theorem rnew_any (w : World) : Calls Tryz.prog 6 #[] w fun e w' => ∃ g F, e = .returned (.pointer (some ⟨g, 0, none⟩)) ∧ RefAt w' w.heap.size F g ⟨[], []⟩ ∧ Below w.heap.size w w' := by
  have hb := fun (w : World) => rbuild_pool w
  go_enter Tryz.func6, Tryz.ntmps6
  go_wp2
  go_ret
  refine ⟨w.heap.size, fun b => b = w.heap.size, rfl, ⟨⟨.slice none 0 0, .slice none 0 0, Blk.new w 53 #[.slice none 0 0, .slice none 0 0], ⟨rfl, .inl ⟨rfl, rfl⟩⟩, ⟨rfl, .inl ⟨rfl, rfl⟩⟩, rfl, fun b q => (by cases q), fun b q => (by cases q)⟩, WfP.nil, by simp, fun b q => ⟨by omega, by simp; omega⟩⟩, (Below.refl _ _).alloc (Nat.le_refl _) _⟩
end Go.Proofs.YtfjflefgclfbfaaGreat
end
section
namespace Go.Proofs.YtfjflefgclfbfaaGreat
open Go.RowKit
set_option linter.unusedVariables false
set_option linter.unusedSimpArgs false
set_option maxRecDepth 100000
/-- A row of numbers that a slice reads as. -/
def RowAt (w : World) (v : Value) (xs : List Int) : Prop := ∃ A c, v = .slice A xs.length c ∧ xs.length ≤ c ∧ Reads w w.heap.size 1 A xs.length (xs.map (Value.int .i64))
theorem RowAt.new (w : World) (xs : List Int) : RowAt (w.alloc (.cells (xs.map (Value.int .i64)).toArray 3)) (.slice (some ⟨w.heap.size, 0, none⟩) xs.length xs.length) xs :=
  ⟨_, _, rfl, Nat.le_refl _, reads_blk (Blk.new w 3 (xs.map (Value.int .i64)).toArray) xs.length 1 (by simp)⟩
theorem bl_alloc' (w : World) (o : Obj) : Below w.heap.size w (w.alloc o) := (Below.refl _ _).alloc (Nat.le_refl _) _
theorem rparts_any (t : TD) (w : World) : Calls Tryz.prog 101 #[termV t] w fun e w' => ∃ v, e = .returned v ∧ RowAt w' v (prtL t) ∧ Below w.heap.size w w' := by
  have HB := hide ((Below.refl _ w).alloc (Nat.le_refl _) (.cells t.cells.toArray 67))
  have HX := hide (Blk.new w 67 t.cells.toArray)
  unfold termV
  cases k2 : (t.kind == 2)
  rotate_left
  · have n2 : t.kind = 2 := by simpa using k2
    have hp : prtL t = [t.a, t.b] := by unfold prtL; rw [if_pos (.inl n2)]
    rw [hp]
    go_enter Tryz.func101, Tryz.ntmps101
    go_upto_region 1 with fail
    generalize w.alloc (.cells t.cells.toArray 67) = w1 at HB HX ⊢
    obtain ⟨b1, hb1⟩ : ∃ b, w.heap.size = b := ⟨_, rfl⟩
    have HW := hide hb1
    rw [hb1] at HX ⊢
    clear hb1
    have q0 := HX.out.cell 0
    have q4 := HX.out.cell 4
    have q5 := HX.out.cell 5
    have q6 := HX.out.cell 6
    simp [TD.cells] at q0 q4 q5 q6
    go_wp2
    go_ret
    exact ⟨_, rfl, RowAt.new w1 [t.a, t.b], HB.out.trans ((bl_alloc' w1 _).mono HB.out.size)⟩
  cases k4 : (t.kind == 4)
  rotate_left
  · have n4 : t.kind = 4 := by simpa using k4
    have hp : prtL t = [t.a, t.b] := by unfold prtL; rw [if_pos (.inr n4)]
    rw [hp]
    go_enter Tryz.func101, Tryz.ntmps101
    go_upto_region 1 with fail
    generalize w.alloc (.cells t.cells.toArray 67) = w1 at HB HX ⊢
    obtain ⟨b1, hb1⟩ : ∃ b, w.heap.size = b := ⟨_, rfl⟩
    have HW := hide hb1
    rw [hb1] at HX ⊢
    clear hb1
    have q0 := HX.out.cell 0
    have q4 := HX.out.cell 4
    have q5 := HX.out.cell 5
    have q6 := HX.out.cell 6
    simp [TD.cells] at q0 q4 q5 q6
    go_wp2
    go_ret
    exact ⟨_, rfl, RowAt.new w1 [t.a, t.b], HB.out.trans ((bl_alloc' w1 _).mono HB.out.size)⟩
  cases k3 : (t.kind == 3)
  rotate_left
  · have n3 : t.kind = 3 := by simpa using k3
    have hp : prtL t = [t.a] := by unfold prtL; rw [if_neg (by omega), if_pos n3]
    rw [hp]
    go_enter Tryz.func101, Tryz.ntmps101
    go_upto_region 1 with fail
    generalize w.alloc (.cells t.cells.toArray 67) = w1 at HB HX ⊢
    obtain ⟨b1, hb1⟩ : ∃ b, w.heap.size = b := ⟨_, rfl⟩
    have HW := hide hb1
    rw [hb1] at HX ⊢
    clear hb1
    have q0 := HX.out.cell 0
    have q4 := HX.out.cell 4
    have q5 := HX.out.cell 5
    have q6 := HX.out.cell 6
    simp [TD.cells] at q0 q4 q5 q6
    go_wp2
    go_ret
    exact ⟨_, rfl, RowAt.new w1 [t.a], HB.out.trans ((bl_alloc' w1 _).mono HB.out.size)⟩
  cases k5 : (t.kind == 5)
  rotate_left
  · have n5 : t.kind = 5 := by simpa using k5
    have hp : prtL t = [t.a, t.b, t.c] := by unfold prtL; rw [if_neg (by omega), if_neg (by omega), if_pos n5]
    rw [hp]
    go_enter Tryz.func101, Tryz.ntmps101
    go_upto_region 1 with fail
    generalize w.alloc (.cells t.cells.toArray 67) = w1 at HB HX ⊢
    obtain ⟨b1, hb1⟩ : ∃ b, w.heap.size = b := ⟨_, rfl⟩
    have HW := hide hb1
    rw [hb1] at HX ⊢
    clear hb1
    have q0 := HX.out.cell 0
    have q4 := HX.out.cell 4
    have q5 := HX.out.cell 5
    have q6 := HX.out.cell 6
    simp [TD.cells] at q0 q4 q5 q6
    go_wp2
    go_ret
    exact ⟨_, rfl, RowAt.new w1 [t.a, t.b, t.c], HB.out.trans ((bl_alloc' w1 _).mono HB.out.size)⟩
  · have hp : prtL t = [] := by
      simp at k2 k3 k4 k5
      unfold prtL
      rw [if_neg (by omega), if_neg k3, if_neg k5]
    rw [hp]
    go_enter Tryz.func101, Tryz.ntmps101
    go_upto_region 1 with fail
    generalize w.alloc (.cells t.cells.toArray 67) = w1 at HB HX ⊢
    obtain ⟨b1, hb1⟩ : ∃ b, w.heap.size = b := ⟨_, rfl⟩
    have HW := hide hb1
    rw [hb1] at HX ⊢
    clear hb1
    have q0 := HX.out.cell 0
    have q4 := HX.out.cell 4
    have q5 := HX.out.cell 5
    have q6 := HX.out.cell 6
    simp [TD.cells] at q0 q4 q5 q6
    go_wp2
    go_ret
    exact ⟨_, rfl, ⟨none, 0, rfl, Nat.le_refl _, Reads.none_⟩, HB.out⟩
end Go.Proofs.YtfjflefgclfbfaaGreat
end
section
namespace Go.Proofs.YtfjflefgclfbfaaGreat
open Go.RowKit
set_option linter.unusedVariables false
set_option linter.unusedSimpArgs false
set_option maxRecDepth 100000
theorem rbuild_kind (k : Int) (w : World) : (Instr.build 67 #[(0, .int .i8 k)]).run Tryz.prog w = .ok (termV ⟨k, 0, 0, 0, 0, 0, 0⟩) w := run_build w 67 _ _ (by kernel_rfl)
theorem RefAt.grown {w w' : World} {base g r : Nat} {F : Nat → Prop} {p : PS} (h : RefAt w base F g p) (hg : w.grownBy w' (some r)) (hr : ¬ F r) : RefAt w' base F g p :=
  h.chg (G := fun b => b = r) (Chg.of_grown hg fun q e => .inl (by injection e with e; exact e.symm)) fun b q e => hr (e ▸ q)
theorem likeT_rng {t : TD} (h : t.wf) : (likeT t).wf := by
  unfold TD.wf I8 U64 I64 at h ⊢
  unfold likeT
  repeat' split
  all_goals (dsimp only; omega)
section
variable {base g : Nat} {F : Nat → Prop} {p : PS}
set_option maxHeartbeats 4000000 in
theorem rmay_0 (t : TD) (ht : t.wf) (n0 : t.kind = 0) (w : World) (h : RefAt w base F g p) : Calls Tryz.prog 100 #[.pointer (some ⟨g, 0, none⟩), termV t] w fun e w' => e = .returned (.bool (okP p.T t)) ∧ Below w.heap.size w w' := by
  have HP := hide h
  have HLW := hide (likeT_rng ht)
  have HTW := hide ht
  have HB0 := hide (bl_alloc' w (.cells t.cells.toArray 67))
  have HX0 := hide (Blk.new w 67 t.cells.toArray)
  have qb := fun w => rbuild_kind t.kind w
  clear h ht
  unfold termV
  go_enter Tryz.func100, Tryz.ntmps100
  go_upto_region 1 with fail
  have HNF := hide (fun b (hb : w.heap.size ≤ b) (q : F b) => by have := (HP.out.fb b q).2; omega : ∀ b, w.heap.size ≤ b → ¬ F b)
  have HP0 := hide (HP.out.below HB0.out)
  generalize w.alloc (.cells t.cells.toArray 67) = w1 at HB0 HX0 HP0 ⊢
  obtain ⟨bx, hbx⟩ : ∃ b, w.heap.size = b := ⟨_, rfl⟩
  have HBX := hide hbx
  rw [hbx] at HX0 ⊢
  clear hbx
  have HLT := hide (show bx < w1.heap.size from HX0.out.lt)
  have q0 := HX0.out.cell 0
  simp [TD.cells] at q0
  go_upto_region 2 with fail
  have HY := hide (Blk.new w1 67 #[.int .i8 0, .int .i8 0, .int .i8 0, .int .u64 0, .int .i64 0, .int .i64 0, .int .i64 0])
  have HL := hide (bl_alloc' w1 (.cells #[.int .i8 0, .int .i8 0, .int .i8 0, .int .u64 0, .int .i64 0, .int .i64 0, .int .i64 0] 67))
  generalize w1.alloc (.cells #[.int .i8 0, .int .i8 0, .int .i8 0, .int .u64 0, .int .i64 0, .int .i64 0, .int .i64 0] 67) = w2 at HY HL ⊢
  have HB := hide (HB0.out.trans (HL.out.mono HB0.out.size))
  replace HX0 := hide (HX0.out.below HL.out HX0.out.lt)
  replace HP0 := hide (HP0.out.below HL.out)
  have HNB := hide (show bx < w1.heap.size ∧ ¬ F w1.heap.size ∧ w.heap.size ≤ w1.heap.size from ⟨HLT.out, HNF.out _ HB0.out.size, HB0.out.size⟩)
  obtain ⟨b5, hb5⟩ : ∃ b, w1.heap.size = b := ⟨_, rfl⟩
  rw [hb5] at HY HNB ⊢
  clear hb5 HL HB0 HLT q0
  have q0 := HX0.out.cell 0
  simp [TD.cells] at q0
  have q3 := HX0.out.cell 3
  simp [TD.cells] at q3
  go_upto_region 5 with (first
    | (refine wpList_store_at rfl 31 (.tmp 17) (.tmp 16) rfl b5 3 67 [.int .i8 0, .int .i8 0, .int .i8 0, .int .u64 0, .int .i64 0, .int .i64 0, .int .i64 0] [.int .u64 t.n] (.int .u64 t.n) HY.out (by rfl) (by rfl) rfl (by kernel_rfl) (by simp) (by simp [Value.oneCell']) ?_
       intro wn Gn Ln Zn
       have HYn := hide (by have h := Gn; simp [overC] at h; exact h : Blk wn b5 67 #[.int .i8 0, .int .i8 0, .int .i8 0, .int .u64 t.n, .int .i64 0, .int .i64 0, .int .i64 0])
       have HXn := hide (HX0.out.grown Ln (fun e => by injection e with e; have := HNB.out.1; omega))
       have HPn := hide (HP0.out.grown Ln HNB.out.2.1)
       have HBn := hide (HB.out.grown Ln HB.out.size (fun b q => by injection q with q; have := HNB.out.2.2; omega))
       clear Gn Ln Zn)
    | fail)
  clear q3 HY HX0 HP0 HB
  clear q0
  have HY := HYn
  have HX0 := HXn
  have HP0 := HPn
  have HB := HBn
  clear HYn HXn HPn HBn
  have HYL := hide (by have h := HY.out; unfold likeT; rw [if_pos n0]; exact h : Blk _ b5 67 (likeT t).cells.toArray)
  have heq := fun w => eql_tm HTW.out HLW.out w
  obtain ⟨dl, hdl⟩ : ∃ d, decide (t = likeT t) = d := ⟨_, rfl⟩
  have HDL := hide hdl
  rw [hdl] at heq
  clear hdl
  have tok1 := True.intro
  have tok2 := True.intro
  go_wp2_with (first
    | (clear tok1; refine wpList_load_at rfl 67 (.tmp 3) rfl _ (by rfl) t.cells _ (blk_list HX0.out) Tryz.underlying67 rfl sizT ?_)
    | (clear tok2; refine wpList_load_at rfl 67 (.tmp 5) rfl _ (by rfl) (likeT t).cells _ (blk_list HYL.out) Tryz.underlying67 rfl sizT ?_)
    | fail)
  go_ret
  exact ⟨by unfold okP okF askT prtL clashB; simp [n0, HDL.out], HB.out⟩
end
end Go.Proofs.YtfjflefgclfbfaaGreat
end
section
namespace Go.Proofs.YtfjflefgclfbfaaGreat
open Go.RowKit
set_option linter.unusedVariables false
set_option linter.unusedSimpArgs false
/-- The document's pool behind some steps, its blocks those of before or new ones. -/
structure RG (base g : Nat) (F : Nat → Prop) (w : World) (F' : Nat → Prop) (p' : PS) (w' : World) : Prop where
  pool : RefAt w' base F' g p'
  chg : Chg F w w'
  new : ∀ b, F' b → F b ∨ w.heap.size ≤ b
section
variable {base g : Nat} {F F1 F2 : Nat → Prop} {w w1 w2 : World} {p p1 p2 : PS}
theorem RG.refl (h : RefAt w base F g p) : RG base g F w F p w := ⟨h, Chg.refl _ _, fun b q => .inl q⟩
theorem RG.trans (h : RG base g F w F1 p1 w1) (k : RG base g F1 w1 F2 p2 w2) : RG base g F w F2 p2 w2 :=
  ⟨k.pool, h.chg.trans k.chg h.new, fun b q => (k.new b q).elim (h.new b) (fun e => .inr (Nat.le_trans h.chg.size e))⟩
theorem RG.step (h : RG base g F w F1 p1 w1) (hb : Below w1.heap.size w1 w2) : RG base g F w F1 p1 w2 :=
  h.trans ⟨h.pool.below hb, Chg.of_below hb, fun b q => .inl q⟩
theorem RG.of_below (h : RefAt w base F g p) (hb : Below w.heap.size w w1) : RG base g F w F p w1 := (RG.refl h).step hb
/-- A variable of the caller's, outside the pool, lies on. -/
theorem RG.blk (h : RG base g F w F1 p1 w1) {b : Nat} {t : TypeId} {cs : Array Value} (hb : Blk w b t cs) (hf : ¬ F b) : Blk w1 b t cs ∧ ¬ F1 b :=
  ⟨h.chg.blk hb hf, fun q => (h.new b q).elim hf (fun e => by have := hb.lt; omega)⟩
theorem RG.size (h : RG base g F w F1 p1 w1) : w.heap.size ≤ w1.heap.size := h.chg.size
end
/-- What a function of the document's that makes a term answers. -/
def RetR (base g : Nat) (F : Nat → Prop) (w : World) (r : RS) (e : Ending) (w' : World) : Prop :=
  e = .returned (.tuple #[.int .i64 r.2.1, .int .i64 r.2.2]) ∧ ∃ F', RG base g F w F' r.1 w'
section
variable {base g : Nat} {F F1 : Nat → Prop} {w w1 w2 : World} {p p1 : PS} {r : RS} {e : Ending}
theorem RetR.from (h : RG base g F w F1 p1 w1) (k : RetR base g F1 w1 r e w2) : RetR base g F w r e w2 := by
  obtain ⟨h1, F2, h2⟩ := k
  exact ⟨h1, F2, h.trans h2⟩
theorem RetR.same (h : RG base g F w F1 p1 w1) {n m : Int} : RetR base g F w (p1, n, m) (.returned (.tuple #[.int .i64 n, .int .i64 m])) w1 := ⟨rfl, F1, h⟩
end
end Go.Proofs.YtfjflefgclfbfaaGreat
end
