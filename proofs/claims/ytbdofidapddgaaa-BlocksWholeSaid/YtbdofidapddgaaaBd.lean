/-
  Two rows of blocks, the same? latheref04.Same, blocks.Same. Conditions: those written in each statement.
-/
import Derived.Test.YtbdofidapddgaaaBc
namespace Go.Proofs.Ytbdofidapddgaaa
open Go.RowKit
set_option linter.unusedVariables false
set_option linter.unusedSimpArgs false
theorem NxAt.drewN {w : World} {B : Nat} {s : Value} {ns : List Int} (h : NxAt w B s ns) (k : Nat) : NxAt (w.drewN k) B s ns := h
def sameX (x y : BD) : Bool := (x.frm == y.frm) && ((x.to == y.to) && sameI x.next y.next)
def sameL (a b : List BD) : Bool := a.length == b.length && (List.range a.length).all fun k => match a[k]?, b[k]? with
  | some x, some y => sameX x y
  | _, _ => true
theorem sameX_iff {x y : BD} : sameX x y = true ↔ x = y := by
  obtain ⟨a, b, c⟩ := x
  obtain ⟨d, e, f⟩ := y
  unfold sameX sameI
  simp
theorem sameL_len {a b : List BD} (h : a.length ≠ b.length) : sameL a b = false := by
  unfold sameL
  rw [show (a.length == b.length) = false by simpa using h]
  rfl
theorem sameL_at {a b : List BD} {k : Nat} {x y : BD} (hx : a[k]? = some x) (hy : b[k]? = some y) (h : sameX x y = false) : sameL a b = false := by
  unfold sameL
  have hk := (List.getElem?_eq_some_iff.1 hx).1
  rw [Bool.and_eq_false_iff]
  right
  rw [List.all_eq_false]
  exact ⟨k, List.mem_range.2 hk, by rw [hx, hy]; dsimp only; rw [h]; simp⟩
theorem sameL_all {a b : List BD} (hl : a.length = b.length) (h : ∀ k x y, k < a.length → a[k]? = some x → b[k]? = some y → sameX x y = true) : sameL a b = true := by
  unfold sameL
  rw [show (a.length == b.length) = true by simpa using hl, Bool.true_and, List.all_eq_true]
  intro k hk
  have hk' := List.mem_range.1 hk
  rw [List.getElem?_eq_getElem hk', List.getElem?_eq_getElem (by omega)]
  exact h k _ _ hk' (List.getElem?_eq_getElem hk') (List.getElem?_eq_getElem (by omega))
theorem sameL_iff {a b : List BD} : sameL a b = true ↔ a = b := by
  constructor
  · intro h
    unfold sameL at h
    rw [Bool.and_eq_true, List.all_eq_true] at h
    have hl : a.length = b.length := by simpa using h.1
    refine List.ext_getElem hl fun i h1 h2 => ?_
    have := h.2 i (List.mem_range.2 h1)
    rw [List.getElem?_eq_getElem h1, List.getElem?_eq_getElem h2] at this
    exact sameX_iff.1 this
  · rintro rfl
    exact sameL_all rfl fun k x y _ hx hy => by
      rw [hx] at hy
      exact sameX_iff.2 (Option.some.inj hy)
/-- Blocks in two slices, in a world. -/
structure TF (A A2 : Option Addr) (n : Nat) (a b : List BD) (w W : World) : Prop where
  one : BksAt W w.heap.size A n a
  two : BksAt W w.heap.size A2 n b
  below : Below w.heap.size w W
theorem TF.step {A A2 : Option Addr} {n : Nat} {a b : List BD} {w W V : World} (h : TF A A2 n a b w W) (hb : Below W.heap.size W V) : TF A A2 n a b w V :=
  ⟨h.one.below (hb.mono h.below.size), h.two.below (hb.mono h.below.size), h.below.trans (hb.mono h.below.size)⟩
theorem bel_dN {B : Nat} {w : World} (m : Nat) : Below B w (w.drewN m) := below_drewN (Below.refl _ _) m
set_option maxRecDepth 100000 in
set_option maxHeartbeats 4000000 in
theorem dsame_any (A A2 : Option Addr) (n c n2 c2 : Nat) (a b : List BD) (w : World) (hh : BksAt w w.heap.size A n a) (hh2 : BksAt w w.heap.size A2 n2 b) (hm : n < 9223372036854775808) (hm2 : n2 < 9223372036854775808) :
    Calls Try.prog 15 #[.slice A n c, .slice A2 n2 c2] w (BoolP (sameL a b) w) := by
  have HLA := hide hh.len
  have HLB := hide hh2.len
  cases hne : ((n : Int) != (n2 : Int))
  · obtain rfl : n = n2 := by simp at hne; omega
    have HF := hide (⟨hh, hh2, Below.refl _ _⟩ : TF A A2 n a b w w)
    clear hne hh hh2
    go_enter Try.func15, Try.ntmps15
    go_wp2
    go_loopw [5] (fun v wr => ∃ k : Nat, k ≤ n ∧ v = .int .i64 k ∧ Hid (∀ j x y, j < k → a[j]? = some x → b[j]? = some y → sameX x y = true) ∧ TF A A2 n a b w wr) (fun v _ => n - (intOf v).toNat)
    case atStart => exact ⟨0, by omega, rfl, fun j x y h => by omega, HF.out⟩
    case round =>
      obtain ⟨k, hk, rfl, HT, hf⟩ := hrel
      clear HF
      have HF := hide hf
      clear hf
      by_cases hlt : k < n
      · obtain ⟨ad, x, s, rfl, hab, hx, hxw, hns, hcell⟩ := HF.out.one.at_ hlt
        obtain ⟨ad2, y, t, rfl, hab2, hy, hyw, hnt, hcell2⟩ := HF.out.two.at_ hlt
        have HX := hide hx
        have HY := hide hy
        obtain ⟨fr, tt, nx⟩ := x
        obtain ⟨fr2, tt2, nx2⟩ := y
        obtain ⟨As, cs, rfl⟩ := hns.form
        obtain ⟨At, ct, rfl⟩ := hnt.form
        have HS := hide hns
        have HTT := hide hnt
        have e0 := hcell 0 _ rfl
        have e1 := hcell 1 _ rfl
        have e2 := hcell 2 _ rfl
        have f0 := hcell2 0 _ rfl
        have f1 := hcell2 1 _ rfl
        have f2 := hcell2 2 _ rfl
        obtain ⟨p, hp⟩ : ∃ p, ad.add (k * 3) = p := ⟨_, rfl⟩
        obtain ⟨q, hq⟩ : ∃ p, ad2.add (k * 3) = p := ⟨_, rfl⟩
        rw [hp] at e0 e1 e2
        rw [hq] at f0 f1 f2
        simp [Addr.add] at e0 e1 e2 f0 f1 f2
        dsimp only at HS HTT
        have HFm := fun m => hide (HF.out.step (bel_dN m))
        clear hcell hxw hx hns hcell2 hyw hy hnt
        cases h0 : (fr != fr2)
        · cases h1 : (tt != tt2)
          · cases hs : sameI nx nx2
            · have HN := hide (sameL_at HX.out HY.out (show sameX ⟨fr, tt, nx⟩ ⟨fr2, tt2, nx2⟩ = false by unfold sameX; dsimp only; rw [hs]; simp))
              have HQI := hide (fun (m : Nat) => (by rw [← hs]; exact dints_any As At nx.length cs nx2.length ct w.heap.size nx nx2 (wr.drewN m) (HS.out.drewN m) (HTT.out.drewN m) : Calls Try.prog 25 #[.slice As nx.length cs, .slice At nx2.length ct] (wr.drewN m) (DrP false (wr.drewN m))))
              clear hs
              go_wp2_with fail
              go_quiet ((go_at_call 25; exact Calls.quiet_of (HQI.out _)))
              go_wp2
              go_ret
              exact ⟨ret_bb HN.out.symm, (HFm _).out.below⟩
            · have HN := hide (show sameX ⟨fr, tt, nx⟩ ⟨fr2, tt2, nx2⟩ = true by unfold sameX; dsimp only; rw [hs]; simp at h0 h1; simp [h0, h1])
              have HQI := hide (fun (m : Nat) => (by rw [← hs]; exact dints_any As At nx.length cs nx2.length ct w.heap.size nx nx2 (wr.drewN m) (HS.out.drewN m) (HTT.out.drewN m) : Calls Try.prog 25 #[.slice As nx.length cs, .slice At nx2.length ct] (wr.drewN m) (DrP true (wr.drewN m))))
              clear hs
              go_wp2_with fail
              go_quiet ((go_at_call 25; exact Calls.quiet_of (HQI.out _)))
              go_wp2
              go_roundw
              case measure => simp [intOf]; omega
              case rel =>
                refine ⟨k + 1, by omega, by go_num, fun j x y hj hx hy => ?_, (HFm _).out⟩
                rcases Nat.lt_or_ge j k with h | h
                · exact HT.out j x y h hx hy
                · obtain rfl : j = k := by omega
                  rw [HX.out] at hx
                  rw [HY.out] at hy
                  exact Option.some.inj hx ▸ Option.some.inj hy ▸ HN.out
          · have HN := hide (sameL_at HX.out HY.out (show sameX ⟨fr, tt, nx⟩ ⟨fr2, tt2, nx2⟩ = false by unfold sameX; dsimp only; simp at h1; simp [h1]))
            go_wp2_with fail
            go_quiet (fail)
            go_wp2
            go_ret
            exact ⟨ret_bb HN.out.symm, (HFm _).out.below⟩
        · have HN := hide (sameL_at HX.out HY.out (show sameX ⟨fr, tt, nx⟩ ⟨fr2, tt2, nx2⟩ = false by unfold sameX; dsimp only; simp at h0; simp [h0]))
          go_wp2_with fail
          go_quiet (fail)
          go_wp2
          go_ret
          exact ⟨ret_bb HN.out.symm, (HFm _).out.below⟩
      · obtain rfl : k = n := by omega
        have HQ := hide (sameL_all (a := a) (b := b) (by rw [HLA.out, HLB.out]) (by rw [HLA.out]; exact HT.out))
        go_wp2
        go_ret
        exact ⟨ret_bb HQ.out.symm, HF.out.below⟩
  · have HQ := hide (sameL_len (a := a) (b := b) (by rw [HLA.out, HLB.out]; simp at hne; omega))
    clear hh hh2
    go_enter Try.func15, Try.ntmps15
    go_wp2
    go_ret
    exact ⟨ret_bb HQ.out.symm, Below.refl _ _⟩
set_option maxRecDepth 100000 in
set_option maxHeartbeats 2000000 in
theorem samex_any (x y : BD) (s t : Value) (w : World) (hs : NxAt w w.heap.size s x.next) (ht : NxAt w w.heap.size t y.next) :
    Calls Try.prog 35 #[.agg #[.int .i64 x.frm, .int .i64 x.to, s], .agg #[.int .i64 y.frm, .int .i64 y.to, t]] w (BoolP (sameX x y) w) := by
  obtain ⟨fr, tt, nx⟩ := x
  obtain ⟨fr2, tt2, nx2⟩ := y
  dsimp only at hs ht ⊢
  obtain ⟨As, cs, rfl⟩ := hs.form
  obtain ⟨At, ct, rfl⟩ := ht.form
  have HS := hide hs
  have HT := hide ht
  have HB2 := hide (fun (o1 o2 : Obj) => (((Below.refl w.heap.size w).alloc (Nat.le_refl _) o1).alloc (by simp) o2 : Below w.heap.size w ((w.alloc o1).alloc o2)))
  clear hs ht
  cases h0 : (fr == fr2)
  · have HN := hide (show sameX ⟨fr, tt, nx⟩ ⟨fr2, tt2, nx2⟩ = false by unfold sameX; dsimp only; rw [h0]; rfl)
    go_enter Try.func35, Try.ntmps35
    go_wp2
    go_ret
    exact ⟨ret_bb HN.out.symm, HB2.out _ _⟩
  · cases h1 : (tt == tt2)
    · have HN := hide (show sameX ⟨fr, tt, nx⟩ ⟨fr2, tt2, nx2⟩ = false by unfold sameX; dsimp only; rw [h1]; simp)
      go_enter Try.func35, Try.ntmps35
      go_wp2
      go_ret
      exact ⟨ret_bb HN.out.symm, HB2.out _ _⟩
    · have HN := hide (show sameX ⟨fr, tt, nx⟩ ⟨fr2, tt2, nx2⟩ = sameI nx nx2 by unfold sameX; dsimp only; rw [h0, h1]; simp)
      go_enter Try.func35, Try.ntmps35
      go_wp2_with fail
      refine (equal_any As At nx.length cs nx2.length ct w.heap.size nx nx2 _ (HS.out.below (HB2.out _ _)) (HT.out.below (HB2.out _ _))).mono ?_
      rintro e w5 ⟨rfl, hd⟩
      have HB := hide ((HB2.out _ _).trans (dr_below hd _))
      clear hd
      go_wp2
      go_ret
      exact ⟨ret_bb HN.out.symm, HB.out⟩
set_option maxRecDepth 100000 in
set_option maxHeartbeats 4000000 in
theorem eqf_any (A A2 : Option Addr) (n c n2 c2 : Nat) (a b : List BD) (w : World) (hh : BksAt w w.heap.size A n a) (hh2 : BksAt w w.heap.size A2 n2 b) (hm : n < 9223372036854775808) (hm2 : n2 < 9223372036854775808) :
    Calls Try.prog 34 #[.slice A n c, .slice A2 n2 c2, .func (.func 35) #[] #[]] w (BoolP (sameL a b) w) := by
  have HLA := hide hh.len
  have HLB := hide hh2.len
  cases hne : ((n : Int) != (n2 : Int))
  · obtain rfl : n = n2 := by simp at hne; omega
    have HF := hide (⟨hh, hh2, Below.refl _ _⟩ : TF A A2 n a b w w)
    clear hne hh hh2
    go_enter Try.func34, Try.ntmps34
    go_wp2
    go_loopw [17] (fun v wr => ∃ k : Nat, k ≤ n ∧ v = .int .i64 k ∧ Hid (∀ j x y, j < k → a[j]? = some x → b[j]? = some y → sameX x y = true) ∧ TF A A2 n a b w wr) (fun v _ => n - (intOf v).toNat)
    case atStart => exact ⟨0, by omega, rfl, fun j x y h => by omega, HF.out⟩
    case round =>
      obtain ⟨k, hk, rfl, HT, hf⟩ := hrel
      clear HF
      have HF := hide hf
      clear hf
      by_cases hlt : k < n
      · obtain ⟨ad, x, s, rfl, hab, hx, hxw, hns, hcell⟩ := HF.out.one.at_ hlt
        obtain ⟨ad2, y, t, rfl, hab2, hy, hyw, hnt, hcell2⟩ := HF.out.two.at_ hlt
        have HX := hide hx
        have HY := hide hy
        obtain ⟨As, cs, rfl⟩ := hns.form
        obtain ⟨At, ct, rfl⟩ := hnt.form
        have HC := hide hcell
        have HC2 := hide hcell2
        have HS := hide hns
        have HTT := hide hnt
        clear hcell hxw hx hns hcell2 hyw hy hnt
        have hsz := HF.out.below.size
        go_upto_region 6 with (refine wpList_load_at rfl 41 (.tmp 20) rfl (ad.add (k * 3)) (by rfl) [.int .i64 x.frm, .int .i64 x.to, .slice As x.next.length cs] _ HC.out Try.underlying41 rfl sizB ?_)
        have X3 := Blk.new wr 41 #[.int .i64 x.frm, .int .i64 x.to, .slice As x.next.length cs]
        have L3 : Below wr.heap.size wr (wr.alloc (.cells #[.int .i64 x.frm, .int .i64 x.to, .slice As x.next.length cs] 41)) := (Below.refl _ _).alloc (Nat.le_refl _) _
        generalize wr.alloc (.cells #[.int .i64 x.frm, .int .i64 x.to, .slice As x.next.length cs] 41) = w3 at X3 L3 ⊢
        have HX3 := hide X3
        have HL3 := hide L3
        have HC3 := hide (fun j u h => by rw [L3.cell (by rw [block_of_add, block_of_add]; omega)]; exact HC2.out j u h : ∀ j u, (bkC (y, .slice At y.next.length ct))[j]? = some u → w3.cell? ((ad2.add (k * 3)).add j) = some u)
        clear X3 L3
        go_upto_region 7 with (refine wpList_load_at rfl 41 (.tmp 24) rfl (ad2.add (k * 3)) (by rfl) [.int .i64 y.frm, .int .i64 y.to, .slice At y.next.length ct] _ HC3.out Try.underlying41 rfl sizB ?_)
        have X4 := Blk.new w3 41 #[.int .i64 y.frm, .int .i64 y.to, .slice At y.next.length ct]
        have L4 : Below w3.heap.size w3 (w3.alloc (.cells #[.int .i64 y.frm, .int .i64 y.to, .slice At y.next.length ct] 41)) := (Below.refl _ _).alloc (Nat.le_refl _) _
        generalize w3.alloc (.cells #[.int .i64 y.frm, .int .i64 y.to, .slice At y.next.length ct] 41) = w4 at X4 L4 ⊢
        have HX4 := hide X4
        have HX34 := hide (HX3.out.below L4 HX3.out.lt)
        have HB4 := hide (HL3.out.trans (L4.mono HL3.out.size))
        clear X4 L4
        have HF4 := hide (HF.out.step HB4.out)
        have HS4 := hide ((HS.out.below (HB4.out.mono hsz)).more (Nat.le_trans hsz HB4.out.size))
        have HT4 := hide ((HTT.out.below (HB4.out.mono hsz)).more (Nat.le_trans hsz HB4.out.size))
        go_wp2_with (first
          | (refine wpList_load_at rfl 41 (.tmp 8) rfl ⟨wr.heap.size, 0, none⟩ (by rfl) [.int .i64 x.frm, .int .i64 x.to, .slice As x.next.length cs] _ (blk_list HX34.out) Try.underlying41 rfl sizB ?_)
          | (refine wpList_load_at rfl 41 (.tmp 9) rfl ⟨w3.heap.size, 0, none⟩ (by rfl) [.int .i64 y.frm, .int .i64 y.to, .slice At y.next.length ct] _ (blk_list HX4.out) Try.underlying41 rfl sizB ?_)
          | fail)
        refine (samex_any x y _ _ _ HS4.out HT4.out).mono ?_
        rintro e w5 ⟨rfl, hb⟩
        have HF5 := hide (HF4.out.step hb)
        clear hb
        cases hs : sameX x y
        · have HN := hide (sameL_at HX.out HY.out hs)
          go_wp2
          go_ret
          exact ⟨ret_bb HN.out.symm, HF5.out.below⟩
        · have HN := hide hs
          go_wp2
          go_roundw
          case measure => simp [intOf]; omega
          case rel =>
            refine ⟨k + 1, by omega, by go_num, fun j x y hj hx hy => ?_, HF5.out⟩
            rcases Nat.lt_or_ge j k with h | h
            · exact HT.out j x y h hx hy
            · obtain rfl : j = k := by omega
              rw [HX.out] at hx
              rw [HY.out] at hy
              exact Option.some.inj hx ▸ Option.some.inj hy ▸ HN.out
      · obtain rfl : k = n := by omega
        have HQ := hide (sameL_all (a := a) (b := b) (by rw [HLA.out, HLB.out]) (by rw [HLA.out]; exact HT.out))
        go_wp2
        go_ret
        exact ⟨ret_bb HQ.out.symm, HF.out.below⟩
  · have HQ := hide (sameL_len (a := a) (b := b) (by rw [HLA.out, HLB.out]; simp at hne; omega))
    clear hh hh2
    go_enter Try.func34, Try.ntmps34
    go_wp2
    go_ret
    exact ⟨ret_bb HQ.out.symm, Below.refl _ _⟩
theorem same_any (A A2 : Option Addr) (n c n2 c2 : Nat) (a b : List BD) (w : World) (hh : BksAt w w.heap.size A n a) (hh2 : BksAt w w.heap.size A2 n2 b) (hm : n < 9223372036854775808) (hm2 : n2 < 9223372036854775808) :
    Calls Try.prog 19 #[.slice A n c, .slice A2 n2 c2] w (BoolP (sameL a b) w) := by
  have HH := hide hh
  have HH2 := hide hh2
  clear hh hh2
  go_enter Try.func19, Try.ntmps19
  go_wp2_with fail
  refine (eqf_any A A2 n c n2 c2 a b _ HH.out HH2.out hm hm2).mono ?_
  rintro e w' ⟨rfl, hb⟩
  have HB := hide hb
  clear hb
  go_wp2
  go_ret
  exact ⟨rfl, HB.out⟩
end Go.Proofs.Ytbdofidapddgaaa
