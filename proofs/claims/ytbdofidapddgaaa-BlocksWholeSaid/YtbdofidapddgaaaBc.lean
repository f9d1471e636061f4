/-
  Which block has an instruction: latheref04.Of, blocks.Of. Conditions: those written in each statement.
-/
import Derived.Test.YtbdofidapddgaaaBb
namespace Go.Proofs.Ytbdofidapddgaaa
open Go.RowKit
set_option linter.unusedVariables false
set_option linter.unusedSimpArgs false
theorem sizB : (Try.prog.info? 41).map (·.size) = some 3 := by kernel_rfl
def inBk (x : BD) (i : Int) : Bool := decide (x.frm ≤ i) && decide (i < x.to)
/-- The first block with an instruction. -/
def ofK (l : List BD) (i : Int) : Option Nat := l.findIdx? (fun x => inBk x i)
theorem ofk_at {l : List BD} {i : Int} {k : Nat} {x : BD} (hx : l[k]? = some x) (hi : inBk x i = true) (h : ∀ j y, j < k → l[j]? = some y → inBk y i = false) : ofK l i = some k := by
  obtain ⟨hk, rfl⟩ := List.getElem?_eq_some_iff.1 hx
  unfold ofK
  rw [List.findIdx?_eq_some_iff_getElem]
  refine ⟨hk, hi, fun j hj => ?_⟩
  have := h j _ hj (List.getElem?_eq_getElem (by omega))
  simp [this]
theorem ofk_no {l : List BD} {i : Int} (h : ∀ j y, j < l.length → l[j]? = some y → inBk y i = false) : ofK l i = none := by
  unfold ofK
  rw [List.findIdx?_eq_none_iff]
  intro x hx
  obtain ⟨j, hj, rfl⟩ := List.getElem_of_mem hx
  exact h j _ hj (List.getElem?_eq_getElem hj)
def ofN (l : List BD) (i : Int) : Int := match ofK l i with
  | some k => k
  | none => 0
def ofI (l : List BD) (i : Int) : Int := match ofK l i with
  | some k => k
  | none => -1
def ofB (l : List BD) (i : Int) : Bool := (ofK l i).isSome
def OfP (l : List BD) (i : Int) (w : World) (e : Ending) (w' : World) : Prop := e = .returned (.tuple #[.int .i64 (ofN l i), .bool (ofB l i)]) ∧ Below w.heap.size w w'
set_option maxRecDepth 100000 in
set_option maxHeartbeats 2000000 in
theorem dof_any (A : Option Addr) (n c B : Nat) (l : List BD) (i : Int) (w : World) (hh : BksAt w B A n l) (hm : n < 9223372036854775808) :
    Calls Try.prog 14 #[.slice A n c, .int .i64 i] w fun e w' => e = .returned (.tuple #[.int .i64 (ofN l i), .bool (ofB l i)]) ∧ w = w' := by
  have HH := hide hh
  have HL := hide hh.len
  clear hh
  go_enter Try.func14, Try.ntmps14
  go_wp2
  go_loop [6] (fun v => ∃ k : Nat, k ≤ n ∧ v = .int .i64 k ∧ Hid (∀ j y, j < k → l[j]? = some y → inBk y i = false)) (fun v => n - (intOf v).toNat)
  case atStart => exact ⟨0, by omega, rfl, fun j y h => by omega⟩
  case round =>
    obtain ⟨k, hk, rfl, HT⟩ := hrel
    by_cases hlt : k < n
    · obtain ⟨ad, x, s, rfl, hab, hx, hxw, hns, hcell⟩ := HH.out.at_ hlt
      have HX := hide hx
      obtain ⟨fr, tt, nx⟩ := x
      have e0 := hcell 0 _ rfl
      have e1 := hcell 1 _ rfl
      obtain ⟨p, hp⟩ : ∃ p, ad.add (k * 3) = p := ⟨_, rfl⟩
      rw [hp] at e0 e1
      simp [Addr.add] at e0 e1
      clear hcell hxw hx hns
      cases h0 : decide (fr ≤ i)
      · have HN := hide (show inBk ⟨fr, tt, nx⟩ i = false by unfold inBk; dsimp only; rw [h0]; rfl)
        go_wp2
        go_round
        case measure => simp [intOf]; omega
        case rel =>
          refine ⟨k + 1, by omega, by go_num, fun j y hj hy => ?_⟩
          rcases Nat.lt_or_ge j k with h | h
          · exact HT.out j y h hy
          · obtain rfl : j = k := by omega
            rw [HX.out] at hy
            exact Option.some.inj hy ▸ HN.out
      · cases h1 : decide (i < tt)
        · have HN := hide (show inBk ⟨fr, tt, nx⟩ i = false by unfold inBk; dsimp only; rw [h1, Bool.and_false])
          go_wp2
          go_round
          case measure => simp [intOf]; omega
          case rel =>
            refine ⟨k + 1, by omega, by go_num, fun j y hj hy => ?_⟩
            rcases Nat.lt_or_ge j k with h | h
            · exact HT.out j y h hy
            · obtain rfl : j = k := by omega
              rw [HX.out] at hy
              exact Option.some.inj hy ▸ HN.out
        · have HY := hide (ofk_at HX.out (show inBk ⟨fr, tt, nx⟩ i = true by unfold inBk; dsimp only; rw [h0, h1]; rfl) HT.out)
          go_wp2
          go_ret2
          exact ⟨by unfold ofN ofB; rw [HY.out]; rfl, rfl⟩
    · obtain rfl : k = n := by omega
      have HY := hide (ofk_no (l := l) (i := i) (by rw [HL.out]; exact HT.out))
      go_wp2
      go_ret2
      exact ⟨by unfold ofN ofB; rw [HY.out]; rfl, rfl⟩
set_option maxRecDepth 100000 in
set_option maxHeartbeats 2000000 in
theorem inbk_any (x : BD) (s : Value) (i : Int) (g : Nat) (w : World) (hg : g < w.heap.size) (hc : w.cell? ⟨g, 0, none⟩ = some (.int .i64 i)) :
    Calls Try.prog 33 #[.agg #[.int .i64 x.frm, .int .i64 x.to, s], .pointer (some ⟨g, 0, none⟩)] w (BoolP (inBk x i) w) := by
  obtain ⟨fr, tt, nx⟩ := x
  show Calls Try.prog 33 #[.agg #[.int .i64 fr, .int .i64 tt, s], .pointer (some ⟨g, 0, none⟩)] w _
  cases h0 : decide (fr ≤ i)
  · have HN := hide (show inBk ⟨fr, tt, nx⟩ i = false by unfold inBk; dsimp only; rw [h0]; rfl)
    go_enter Try.func33, Try.ntmps33
    go_wp2
    go_ret
    exact ⟨ret_bb HN.out.symm, (Below.refl _ _).alloc (Nat.le_refl _) _⟩
  · cases h1 : decide (i < tt)
    · have HN := hide (show inBk ⟨fr, tt, nx⟩ i = false by unfold inBk; dsimp only; rw [h1, Bool.and_false])
      go_enter Try.func33, Try.ntmps33
      go_wp2
      go_ret
      exact ⟨ret_bb HN.out.symm, (Below.refl _ _).alloc (Nat.le_refl _) _⟩
    · have HN := hide (show inBk ⟨fr, tt, nx⟩ i = true by unfold inBk; dsimp only; rw [h0, h1]; rfl)
      go_enter Try.func33, Try.ntmps33
      go_wp2
      go_ret
      exact ⟨ret_bb HN.out.symm, (Below.refl _ _).alloc (Nat.le_refl _) _⟩
/-- Blocks, and a number that a function value holds, in a world. -/
structure QF (A : Option Addr) (n g : Nat) (l : List BD) (i : Int) (w W : World) : Prop where
  blks : BksAt W w.heap.size A n l
  cell : W.cell? ⟨g, 0, none⟩ = some (.int .i64 i)
  below : Below w.heap.size w W
theorem QF.step {A : Option Addr} {n g : Nat} {l : List BD} {i : Int} {w W V : World} (h : QF A n g l i w W) (hg : g < w.heap.size) (hb : Below W.heap.size W V) : QF A n g l i w V :=
  ⟨h.blks.below (hb.mono h.below.size), (hb.cell (p := ⟨g, 0, none⟩) (Nat.lt_of_lt_of_le hg h.below.size)).trans h.cell, h.below.trans (hb.mono h.below.size)⟩
set_option maxRecDepth 100000 in
set_option maxHeartbeats 2000000 in
theorem idxf_any (A : Option Addr) (n c g : Nat) (l : List BD) (i : Int) (w : World) (hh : BksAt w w.heap.size A n l) (hm : n < 9223372036854775808) (hg : g < w.heap.size) (hc : w.cell? ⟨g, 0, none⟩ = some (.int .i64 i)) :
    Calls Try.prog 32 #[.slice A n c, .func (.func 33) #[] #[.pointer (some ⟨g, 0, none⟩)]] w fun e w' => e = .returned (.int .i64 (ofI l i)) ∧ Below w.heap.size w w' := by
  have HF := hide (⟨hh, hc, Below.refl _ _⟩ : QF A n g l i w w)
  have HL := hide hh.len
  clear hh hc
  go_enter Try.func32, Try.ntmps32
  go_wp2
  go_loopw [8] (fun v wr => ∃ k : Nat, k ≤ n ∧ v = .int .i64 k ∧ Hid (∀ j y, j < k → l[j]? = some y → inBk y i = false) ∧ QF A n g l i w wr) (fun v _ => n - (intOf v).toNat)
  case atStart => exact ⟨0, by omega, rfl, fun j y h => by omega, HF.out⟩
  case round =>
    obtain ⟨k, hk, rfl, HT, hf⟩ := hrel
    clear HF
    have HF := hide hf
    clear hf
    by_cases hlt : k < n
    · obtain ⟨ad, x, s, rfl, hab, hx, hxw, hns, hcell⟩ := HF.out.blks.at_ hlt
      have HX := hide hx
      have HC := hide hcell
      have hgw : g < wr.heap.size := Nat.lt_of_lt_of_le hg HF.out.below.size
      have hcg := HF.out.cell
      clear hcell hxw hx hns
      go_wp2_with (first
        | (refine wpList_load_at rfl 41 (.tmp 14) rfl (ad.add (k * 3)) (by rfl) (bkC (x, s)) _ HC.out Try.underlying41 rfl sizB ?_)
        | fail)
      refine (inbk_any x s i g _ hgw hcg).mono ?_
      rintro e w5 ⟨rfl, hb⟩
      have HF5 := hide (HF.out.step hg hb)
      clear hb hcg
      cases hi : inBk x i
      · have HI := hide hi
        clear hi
        go_wp2
        go_roundw
        case measure => simp [intOf]; omega
        case rel =>
          refine ⟨k + 1, by omega, by go_num, fun j y hj hy => ?_, HF5.out⟩
          rcases Nat.lt_or_ge j k with h | h
          · exact HT.out j y h hy
          · obtain rfl : j = k := by omega
            rw [HX.out] at hy
            exact Option.some.inj hy ▸ HI.out
      · have HY := hide (ofk_at HX.out hi HT.out)
        clear hi
        go_wp2
        go_ret
        exact ⟨by unfold ofI; rw [HY.out]; rfl, HF5.out.below⟩
    · obtain rfl : k = n := by omega
      have HY := hide (ofk_no (l := l) (i := i) (by rw [HL.out]; exact HT.out))
      go_wp2
      go_ret
      exact ⟨by unfold ofI; rw [HY.out]; rfl, HF.out.below⟩
set_option maxRecDepth 100000 in
set_option maxHeartbeats 2000000 in
theorem of_any (A : Option Addr) (n c : Nat) (l : List BD) (i : Int) (w : World) (hh : BksAt w w.heap.size A n l) (hm : n < 9223372036854775808) :
    Calls Try.prog 13 #[.slice A n c, .int .i64 i] w (OfP l i w) := by
  have HH := hide (hh.up ((Below.refl w.heap.size w).alloc (Nat.le_refl _) (.cells #[.int .i64 i] 3)) (by simp))
  have HC := hide ((Blk.new w 3 #[.int .i64 i]).cell 0)
  clear hh
  go_enter Try.func13, Try.ntmps13
  go_wp2_with fail
  refine (idxf_any A n c w.heap.size l i _ HH.out hm (by simp) HC.out).mono ?_
  rintro e w2 ⟨rfl, hb⟩
  have HB := hide (((Below.refl w.heap.size w).alloc (Nat.le_refl _) (.cells #[.int .i64 i] 3)).trans (hb.mono (by simp)))
  clear hb
  cases hk : ofK l i with
  | none =>
    have HK := hide hk
    rw [show ofI l i = -1 by unfold ofI; rw [hk]]
    clear hk
    go_wp2
    go_ret2
    exact ⟨by unfold ofN ofB; rw [HK.out]; rfl, HB.out⟩
  | some k =>
    have HK := hide hk
    rw [show ofI l i = k by unfold ofI; rw [hk]]
    clear hk
    have hk0 : (0 : Int) ≤ (k : Int) := by omega
    go_wp2
    go_ret2
    exact ⟨by unfold ofN ofB; rw [HK.out]; simp, HB.out⟩
end Go.Proofs.Ytbdofidapddgaaa
