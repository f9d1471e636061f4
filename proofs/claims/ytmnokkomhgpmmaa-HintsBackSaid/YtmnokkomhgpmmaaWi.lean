/-
  hints.Same and latheref25.Same: whether hints are the same. Conditions: those written in each statement.
-/
import Derived.Test.YtmnokkomhgpmmaaLa
import Derived.Test.YtmnokkomhgpmmaaQuiet
namespace Go.Proofs.Ytmnokkomhgpmmaa
open Go.RowKit
set_option linter.unusedVariables false
set_option linter.unusedSimpArgs false
def hintK : List (Option IntKind) := some .i64 :: List.replicate 22 (some .i8)
theorem flatHi : flatK Try.prog 4 34 = some hintK := by kernel_rfl
theorem okHi : eqOk Try.prog 4 34 = true := by kernel_rfl
theorem aggHi : aggT Try.prog 34 = true := by kernel_rfl
theorem wf_i64 {x : Int} (h : I64 x) : (Lit.int .i64 x).wf = true := by unfold I64 at h; exact WalkArith.wf_i64 (by omega)
theorem plCells_all : ∀ (l : List (Int × Int)), (∀ p ∈ l, I8 p.1 ∧ I8 p.2) → ∀ (i : Nat) (v : Value), (plCells l)[i]? = some v → cellK (some .i8) v := by
  intro l h i v hv
  have hm := List.mem_of_getElem? hv
  unfold plCells at hm
  obtain ⟨p, hp, hvp⟩ := List.mem_flatMap.1 hm
  have := h p hp
  simp at hvp
  rcases hvp with rfl | rfl
  · exact ⟨_, rfl, wf_i8 this.1⟩
  · exact ⟨_, rfl, wf_i8 this.2⟩
theorem HD.all {h : HD} (hw : h.wf) : AllK hintK h.cells := by
  refine ⟨HD.cells_len hw, fun i k v hk hv => ?_⟩
  cases i with
  | zero => simp [hintK] at hk; simp [HD.cells] at hv; subst hk hv; exact ⟨_, rfl, wf_i64 hw.1⟩
  | succ i =>
    have hk2 : k = some .i8 := by
      simp only [hintK, List.getElem?_cons_succ] at hk
      have := List.mem_of_getElem? hk
      exact List.eq_of_mem_replicate this
    subst hk2
    exact plCells_all h.pl hw.2.2 i v (by simpa [HD.cells] using hv)
theorem neq_hint {x y : HD} (hx : x.wf) (hy : y.wf) (w : World) : (binOp .neq 34 (.agg x.cells.toArray) (.agg y.cells.toArray)).run Try.prog w = .ok (.bool (!eqL x.cells y.cells)) w :=
  run_neq_flat (by decide) flatHi okHi aggHi (HD.all hx) (HD.all hy) w
def sameR : List HD → List HD → Bool
  | [], [] => true
  | x :: r, y :: t => eqL x.cells y.cells && sameR r t
  | _, _ => false
theorem sameR_iff : ∀ (a b : List HD), sameR a b = true ↔ a.length = b.length ∧ ∀ (k : Nat) (x y : HD), a[k]? = some x → b[k]? = some y → eqL x.cells y.cells = true
  | [], [] => by simp [sameR]
  | [], y :: t => by simp [sameR]
  | x :: r, [] => by simp [sameR]
  | x :: r, y :: t => by
    simp only [sameR, Bool.and_eq_true, sameR_iff r t, List.length_cons]
    constructor
    · rintro ⟨h1, h2, h3⟩
      refine ⟨by omega, fun k p q hp hq => ?_⟩
      cases k with
      | zero => simp at hp hq; subst hp hq; exact h1
      | succ k => exact h3 k p q (by simpa using hp) (by simpa using hq)
    · rintro ⟨h1, h2⟩
      exact ⟨h2 0 x y rfl rfl, by omega, fun k p q hp hq => h2 (k + 1) p q (by simpa using hp) (by simpa using hq)⟩
def sameB (s t : Int) (a b : List HD) : Bool := s == t && sameR a b
set_option maxHeartbeats 1000000 in
theorem cl_same (adx ad : Addr) (x y : HD) (j : Int) (k n c bi bb : Nat) (w : World) (hj : j + 1 = k) (hk : k < n) (hc : n ≤ c) (hm : n < 9223372036854775808)
    (hxw : x.wf) (hyw : y.wf) (hi : w.cell? ⟨bi, 0, none⟩ = some (.int .i64 j)) (hif : w.frozen? ⟨bi, 0, none⟩ = false) (hb1 : w.cell? ⟨bb, 1, none⟩ = some (.slice (some ad) n c)) (hne : bb ≠ bi) (hxb : adx.block ≠ bi) (hyb : ad.block ≠ bi)
    (hx : ∀ i u, x.cells[i]? = some u → w.cell? (adx.add i) = some u) (hy : ∀ i u, y.cells[i]? = some u → w.cell? ((ad.add (k * 23)).add i) = some u) :
    Calls Try.prog 26 #[.pointer (some adx), .pointer (some ⟨bi, 0, none⟩), .pointer (some ⟨bb, 0, none⟩)] w fun e w' => e = .returned (.bool (!eqL x.cells y.cells)) ∧ ∃ m, w' = (w.setCell ⟨bi, 0, none⟩ (.int .i64 (j + 1))).drewN m := by
  obtain ⟨iH, hiH, hzH, hsH, _⟩ := info_parts infH
  have IH := hide (And.intro hiH (And.intro hzH hsH))
  clear hiH hzH hsH
  have oth : ∀ p : Addr, p.block ≠ bi → (w.setCell ⟨bi, 0, none⟩ (.int .i64 (j + 1))).cell? p = w.cell? p := fun p hp => World.cell?_setCell_other w _ p _ (fun e => hp (by rw [← e]))
  have HXc := hide (show ∀ i u, x.cells[i]? = some u → (w.setCell ⟨bi, 0, none⟩ (.int .i64 (j + 1))).cell? (adx.add i) = some u from fun i u hu => (oth _ (by rw [block_of_add]; exact hxb)).trans (hx i u hu))
  have HYc := hide (show ∀ i u, y.cells[i]? = some u → (w.setCell ⟨bi, 0, none⟩ (.int .i64 (j + 1))).cell? ((ad.add (k * 23)).add i) = some u from fun i u hu => (oth _ (by rw [block_of_add, block_of_add]; exact hyb)).trans (hy i u hu))
  have HB1c := hide ((oth ⟨bb, 1, none⟩ hne).trans hb1)
  have HIc := hide (show (w.setCell ⟨bi, 0, none⟩ (.int .i64 (j + 1))).cell? ⟨bi, 0, none⟩ = some (.int .i64 (j + 1)) from World.cell?_setCell_same w _ _ hi)
  have hE := fun W => neq_hint hxw hyw W
  have hlx := hide (HD.cells_len hxw)
  have hly := hide (HD.cells_len hyw)
  have hj0 : -1 ≤ j := by omega
  have hj1 : j + 1 < n := by omega
  have hk2 : (j + 1).toNat = k := by omega
  have HJ := hide hj
  clear hx hy hb1 oth hj
  go_enter Try.func26, Try.ntmps26
  go_wp2_with fail
  generalize hW : w.setCell ⟨bi, 0, none⟩ (.int .i64 (j + 1)) = W1 at *
  have HWW := hide hW
  clear hW hi
  have h1 := HB1c.out
  have h2 := HIc.out
  refine wp_region_quiet_lit (by kernel_rfl) (by kernel_rfl) ?_
  repeat (first
    | (refine wpQuiet_load rfl 34 (.tmp 8) rfl adx rfl x.cells _ HXc.out Try.underlying34 rfl (by rw [hlx.out, IH.out.1]; simp [IH.out.2.2]) ?_; go_simp)
    | (refine wpQuiet_load rfl 34 (.tmp 13) rfl (ad.add (k * 23)) rfl y.cells _ HYc.out Try.underlying34 rfl (by rw [hly.out, IH.out.1]; simp [IH.out.2.2]) ?_; go_simp)
    | go_big_quiet_step (fail))
  refine wpQuiet_nil ?_
  intro nq
  go_wp2
  go_ret
  exact ⟨rfl, nq, by rw [HWW.out]⟩
def SRel (hs ho : List HD) (bi bb B : Nat) (W : World) (A A2 : Option Addr) (n n2 c2 : Nat) (i : Value) (wr : World) : Prop :=
  ∃ k : Nat, k ≤ n ∧ i = .int .i64 k ∧ (∀ j x y, j < k → hs[j]? = some x → ho[j]? = some y → eqL x.cells y.cells = true) ∧ HintsAt wr B A n hs ∧ HintsAt wr B A2 n2 ho ∧
    wr.cell? ⟨bi, 0, none⟩ = some (.int .i64 ((k : Int) - 1)) ∧ wr.frozen? ⟨bi, 0, none⟩ = false ∧ wr.cell? ⟨bb, 1, none⟩ = some (.slice A2 n2 c2) ∧ W.grownBy wr (some bi)
set_option maxHeartbeats 1000000 in
theorem find_same (bi bb B : Nat) (A A2 : Option Addr) (n c n2 c2 : Nat) (hs ho : List HD) (w : World) (hh : HintsAt w B A n hs) (hh2 : HintsAt w B A2 n2 ho) (hc : n ≤ c) (hc2 : n2 ≤ c2) (hm : n < 9223372036854775808) (hnn : n = n2) (hB : B ≤ bi)
    (hcb : w.cell? ⟨bi, 0, none⟩ = some (.int .i64 (-1))) (hcf : w.frozen? ⟨bi, 0, none⟩ = false) (hbb : w.cell? ⟨bb, 1, none⟩ = some (.slice A2 n2 c2)) (hne : bb ≠ bi) :
    Calls Try.prog 21 #[.slice A n c, .func (Fn.func 26) #[] #[.pointer (some ⟨bi, 0, none⟩), .pointer (some ⟨bb, 0, none⟩)]] w fun e w' => ∃ r : Int, e = .returned (.int .i64 r) ∧ decide (r < 0) = sameR hs ho ∧ w.grownBy w' (some bi) := by
  have hl := hide hh.1
  have hl2 := hide hh2.1
  have HH := hide hh
  have HH2 := hide hh2
  have HNN := hide hnn
  clear hh hh2 hnn
  go_enter Try.func21, Try.ntmps21
  go_wp2
  go_loopw [8] (fun i wr => SRel hs ho bi bb B w A A2 n n2 c2 i wr) (fun i _ => n - (intOf i).toNat)
  case atStart => exact ⟨0, by omega, rfl, by omega, HH.out, HH2.out, hcb, hcf, hbb, World.grownBy.refl _ _⟩
  case round =>
    obtain ⟨k, hk, rfl, hno, hat, hat2, hcr, hfr, hbr, hgr⟩ := hrel
    have HG := hide hgr
    have HN := hide hno
    clear hgr hno hcb hcf hbb
    by_cases hlt : k < n
    · obtain ⟨ad, x, rfl, hab, hx, hxw, hcell⟩ := hat.at_ hlt
      obtain ⟨ad2, y, rfl, hab2, hy, hyw, hcell2⟩ := hat2.at_ (show k < n2 by have := HNN.out; omega)
      have hk2 : k < n2 := by have := HNN.out; omega
      have hm2 : n2 < 9223372036854775808 := by have := HNN.out; omega
      have HX := hide hx
      have HY := hide hy
      have HAT := hide hat
      have HAT2 := hide hat2
      have HC := hide hcell
      have HC2 := hide hcell2
      have HXW := hide hxw
      have HYW := hide hyw
      have HCR := hide hcr
      have HBR := hide hbr
      clear hx hy hat hat2 hcell hcell2 hxw hyw hcr hbr
      go_wp2_with fail
      refine (cl_same (ad.add (k * 23)) ad2 x y ((k : Int) - 1) k n2 c2 bi bb _ (by omega) hk2 hc2 hm2 HXW.out HYW.out HCR.out hfr HBR.out hne (by rw [block_of_add]; omega) (by omega) HC.out HC2.out).mono ?_
      rintro e w' ⟨rfl, m, rfl⟩
      rw [show ((k : Int) - 1 + 1) = k by omega]
      cases he : eqL x.cells y.cells
      · have HE := hide he
        clear he
        go_wp2
        go_ret
        refine ⟨_, rfl, ?_, ?_⟩
        · have hf : sameR hs ho = false := by
            cases hq : sameR hs ho with
            | false => rfl
            | true =>
              have := ((sameR_iff hs ho).1 hq).2 k x y HX.out HY.out
              rw [HE.out] at this
              cases this
          rw [hf]
          simp
        · exact only_drewN (only_setCell (p := ⟨bi, 0, none⟩) HG.out (.inl rfl) _) _
      · have HE := hide he
        clear he
        go_wp2
        go_roundw
        case measure => simp [intOf]; omega
        case rel =>
          have oth : ∀ p : Addr, p.block ≠ bi → (wr.setCell ⟨bi, 0, none⟩ (.int .i64 k)).cell? p = wr.cell? p := fun p hp => World.cell?_setCell_other wr _ p _ (fun e => hp (by rw [← e]))
          refine ⟨k + 1, by omega, by go_num, fun j p q hj hp hq => ?_, HAT.out.keep fun p hp => oth p (by omega), HAT2.out.keep fun p hp => oth p (by omega), ?_, ?_, (oth ⟨bb, 1, none⟩ hne).trans HBR.out, only_drewN (only_setCell (p := ⟨bi, 0, none⟩) HG.out (.inl rfl) _) _⟩
          · rcases Nat.lt_or_ge j k with h | h
            · exact HN.out j p q h hp hq
            · obtain rfl : j = k := by omega
              have h1 := HX.out
              have h2 := HY.out
              rw [hp] at h1
              rw [hq] at h2
              obtain rfl := Option.some.inj h1
              obtain rfl := Option.some.inj h2
              exact HE.out
          · rw [show (((k + 1 : Nat) : Int) - 1) = k by omega]
            exact World.cell?_setCell_same wr _ _ HCR.out
          · show (wr.setCell ⟨bi, 0, none⟩ (.int .i64 k)).frozen? ⟨bi, 0, none⟩ = false
            rw [World.frozen?_setCell]
            exact hfr
    · obtain rfl : k = n := by omega
      clear hk hlt
      go_wp2
      go_ret
      refine ⟨_, rfl, ?_, HG.out⟩
      rw [(sameR_iff hs ho).2 ⟨by rw [hl.out, hl2.out]; exact HNN.out, fun j p q hp hq => HN.out j p q (by have := (List.getElem?_eq_some_iff.1 hp).1; have := hl.out; omega) hp hq⟩]
      rfl
set_option maxHeartbeats 1000000 in
theorem same_any (s t : Int) (A A2 : Option Addr) (n c n2 c2 : Nat) (hs ho : List HD) (w : World) (hh : HintsAt w w.heap.size A n hs) (hh2 : HintsAt w w.heap.size A2 n2 ho) (hc : n ≤ c) (hc2 : n2 ≤ c2) (hm : n < 9223372036854775808) (hm2 : n2 < 9223372036854775808) :
    Calls Try.prog 15 #[.agg #[.int .i64 s, .slice A n c], .agg #[.int .i64 t, .slice A2 n2 c2]] w fun e w' => e = .returned (.bool (sameB s t hs ho)) ∧ Below w.heap.size w w' := by
  have HH := hide hh
  have HH2 := hide hh2
  have hl := hide hh.1
  have hl2 := hide hh2.1
  clear hh hh2
  have hbl : Below w.heap.size w ((w.alloc (.cells #[.int .i64 s, .slice A n c] 24)).alloc (.cells #[.int .i64 t, .slice A2 n2 c2] 24)) := ((Below.refl _ _).alloc (Nat.le_refl _) _).alloc (le_alloc _ (Nat.le_refl _)) _
  have HBL := hide hbl
  clear hbl
  by_cases h1 : s = t
  · subst h1
    have b1 : (s != s) = false := by simp
    by_cases h2 : n = n2
    · subst h2
      have b2 : (n != n) = false := by simp
      go_enter Try.func15, Try.ntmps15
      go_wp2_with fail
      refine (find_same (w.heap.size + 1 + 1) (w.heap.size + 1) w.heap.size A A2 n c n c2 hs ho _ ?_ ?_ hc hc2 hm rfl (by omega) ?_ ?_ ?_ (by omega)).mono ?_
      · exact (HH.out.below HBL.out).alloc (le_alloc _ (le_alloc _ (Nat.le_refl _))) _
      · exact (HH2.out.below HBL.out).alloc (le_alloc _ (le_alloc _ (Nat.le_refl _))) _
      · have := (Blk.new ((w.alloc (.cells #[.int .i64 s, .slice A n c] 24)).alloc (.cells #[.int .i64 s, .slice A2 n c2] 24)) 3 #[.int .i64 (-1)]).cell 0
        simpa using this
      · have := (Blk.new ((w.alloc (.cells #[.int .i64 s, .slice A n c] 24)).alloc (.cells #[.int .i64 s, .slice A2 n c2] 24)) 3 #[.int .i64 (-1)]).frozen 0
        simpa using this
      · have := ((Blk.new (w.alloc (.cells #[.int .i64 s, .slice A n c] 24)) 24 #[.int .i64 s, .slice A2 n c2]).alloc (.cells #[.int .i64 (-1)] 3)).cell 1
        simpa using this
      · rintro e w2 ⟨r, rfl, hr, hg⟩
        have HR := hide hr
        have HB2 := hide ((HBL.out.alloc (le_alloc _ (le_alloc _ (Nat.le_refl _))) _).grown hg (le_alloc _ (le_alloc _ (le_alloc _ (Nat.le_refl _)))) (fun g e => by injection e with e; omega))
        clear hr hg
        go_wp2
        go_ret
        exact ⟨ret_b (by rw [HR.out]; simp [sameB]), HB2.out⟩
    · have b2 : (n != n2) = true := by simpa using h2
      have hf : sameR hs ho = false := by
        cases hq : sameR hs ho with
        | false => rfl
        | true => exact absurd ((sameR_iff hs ho).1 hq).1 (by rw [hl.out, hl2.out]; exact h2)
      have HF := hide hf
      clear hf h2
      go_enter Try.func15, Try.ntmps15
      go_wp2
      go_ret
      exact ⟨ret_b (by simp [sameB, HF.out]), HBL.out⟩
  · have b1 : (s != t) = true := by simpa using h1
    have hst : (s == t) = false := by simpa using h1
    have HF := hide hst
    clear h1 hst
    go_enter Try.func15, Try.ntmps15
    go_wp2
    go_ret
    exact ⟨ret_b (by simp [sameB, HF.out]), HBL.out⟩
def QRel (hs ho : List HD) (W : World) (A A2 : Option Addr) (n c n2 c2 : Nat) (i : Value) (wr : World) : Prop :=
  ∃ k : Nat, k ≤ n ∧ i = .int .i64 k ∧ (∀ j x y, j < k → hs[j]? = some x → ho[j]? = some y → eqL x.cells y.cells = true) ∧ HintsAt wr W.heap.size A n hs ∧ HintsAt wr W.heap.size A2 n2 ho ∧
    wr.cell? ⟨W.heap.size, 1, none⟩ = some (.slice A n c) ∧ wr.cell? ⟨W.heap.size + 1, 1, none⟩ = some (.slice A2 n2 c2) ∧ Below W.heap.size W wr
set_option maxHeartbeats 1000000 in
theorem rsame_any (s t : Int) (A A2 : Option Addr) (n c n2 c2 : Nat) (hs ho : List HD) (w : World) (hh : HintsAt w w.heap.size A n hs) (hh2 : HintsAt w w.heap.size A2 n2 ho) (hc : n ≤ c) (hc2 : n2 ≤ c2) (hm : n < 9223372036854775808) (hm2 : n2 < 9223372036854775808) :
    Calls Try.prog 16 #[.agg #[.int .i64 s, .slice A n c], .agg #[.int .i64 t, .slice A2 n2 c2]] w fun e w' => e = .returned (.bool (sameB s t hs ho)) ∧ Below w.heap.size w w' := by
  have HH := hide hh
  have HH2 := hide hh2
  have hl := hide hh.1
  have hl2 := hide hh2.1
  obtain ⟨iH, hiH, hzH, hsH, _⟩ := info_parts infH
  have IH := hide (And.intro hiH (And.intro hzH hsH))
  clear hh hh2 hiH hzH hsH
  have hbl : Below w.heap.size w ((w.alloc (.cells #[.int .i64 s, .slice A n c] 24)).alloc (.cells #[.int .i64 t, .slice A2 n2 c2] 24)) := ((Below.refl _ _).alloc (Nat.le_refl _) _).alloc (le_alloc _ (Nat.le_refl _)) _
  have HBL := hide hbl
  clear hbl
  by_cases h1 : s = t
  · subst h1
    have b1 : (s != s) = false := by simp
    by_cases h2 : n = n2
    · subst h2
      have b2 : (n != n) = false := by simp
      go_enter Try.func16, Try.ntmps16
      go_wp2
      go_loopw [5] (fun i wr => QRel hs ho w A A2 n c n c2 i wr) (fun i _ => n - (intOf i).toNat)
      case atStart => exact ⟨0, by omega, rfl, by omega, HH.out.below HBL.out, HH2.out.below HBL.out, by simp, by simp, HBL.out⟩
      case round =>
        obtain ⟨k, hk, rfl, hno, hat, hat2, hcr, hcr2, hbl⟩ := hrel
        have HB := hide hbl
        have HN := hide hno
        clear hbl hno HBL
        by_cases hlt : k < n
        · obtain ⟨ad, x, rfl, hab, hx, hxw, hcell⟩ := hat.at_ hlt
          obtain ⟨ad2, y, rfl, hab2, hy, hyw, hcell2⟩ := hat2.at_ hlt
          have HX := hide hx
          have HY := hide hy
          have HAT := hide hat
          have HAT2 := hide hat2
          have HC := hide hcell
          have HC2 := hide hcell2
          have hlx := hide (HD.cells_len hxw)
          have hly := hide (HD.cells_len hyw)
          have hE0 := fun W => neq_hint hxw hyw W
          have hki : (k : Int) < n := by omega
          clear hx hy hat hat2 hcell hcell2 hxw hyw
          cases he : eqL x.cells y.cells
          all_goals
            rw [he] at hE0
            have hE := hE0
            clear hE0
            have HE := hide he
            clear he
            go_wp2_with fail
            refine wp_region_quiet_lit (by kernel_rfl) (by kernel_rfl) ?_
            repeat (first
              | (refine wpQuiet_load rfl 34 (.tmp 30) rfl (ad.add (k * 23)) rfl x.cells _ HC.out Try.underlying34 rfl (by rw [hlx.out, IH.out.1]; simp [IH.out.2.2]) ?_; go_simp)
              | (refine wpQuiet_load rfl 34 (.tmp 35) rfl (ad2.add (k * 23)) rfl y.cells _ HC2.out Try.underlying34 rfl (by rw [hly.out, IH.out.1]; simp [IH.out.2.2]) ?_; go_simp)
              | go_big_quiet_step (fail))
            refine wpQuiet_nil ?_
            intro nq
            go_wp2
          · go_ret
            have hf : sameR hs ho = false := by
              cases hq : sameR hs ho with
              | false => rfl
              | true =>
                have := ((sameR_iff hs ho).1 hq).2 k x y HX.out HY.out
                rw [HE.out] at this
                cases this
            exact ⟨ret_b (by simp [sameB, hf]), below_drewN HB.out _⟩
          · go_roundw
            case measure => simp [intOf]; omega
            case rel =>
              refine ⟨k + 1, by omega, by go_num, fun j p q hj hp hq => ?_, HAT.out, HAT2.out, hcr, hcr2, below_drewN HB.out _⟩
              rcases Nat.lt_or_ge j k with h | h
              · exact HN.out j p q h hp hq
              · obtain rfl : j = k := by omega
                have h1 := HX.out
                have h2 := HY.out
                rw [hp] at h1
                rw [hq] at h2
                obtain rfl := Option.some.inj h1
                obtain rfl := Option.some.inj h2
                exact HE.out
        · obtain rfl : k = n := by omega
          clear hk hlt
          go_wp2
          go_ret
          have hf : sameR hs ho = true := (sameR_iff hs ho).2 ⟨by rw [hl.out, hl2.out], fun j p q hp hq => HN.out j p q (by have := (List.getElem?_eq_some_iff.1 hp).1; have := hl.out; omega) hp hq⟩
          exact ⟨ret_b (by simp [sameB, hf]), HB.out⟩
    · have b2 : (n != n2) = true := by simpa using h2
      have hf : sameR hs ho = false := by
        cases hq : sameR hs ho with
        | false => rfl
        | true => exact absurd ((sameR_iff hs ho).1 hq).1 (by rw [hl.out, hl2.out]; exact h2)
      have HF := hide hf
      clear hf h2
      go_enter Try.func16, Try.ntmps16
      go_wp2
      go_ret
      exact ⟨ret_b (by simp [sameB, HF.out]), HBL.out⟩
  · have b1 : (s != t) = true := by simpa using h1
    have hst : (s == t) = false := by simpa using h1
    have HF := hide hst
    clear h1 hst
    go_enter Try.func16, Try.ntmps16
    go_wp2
    go_ret
    exact ⟨ret_b (by simp [sameB, HF.out]), HBL.out⟩
set_option maxHeartbeats 400000 in
theorem rfirst_any (w : World) :
    Calls Try.prog 18 #[] w fun e w' => ∃ A, e = .returned (.agg #[.int .i64 0, .slice A 1 1]) ∧ HintsAt w' w'.heap.size A 1 [hd0] ∧ Below w.heap.size w w' := by
  go_enter Try.func18, Try.ntmps18
  go_wp2
  refine bodyPost_ret (v := .agg #[.int .i64 0, .slice (some ⟨w.heap.size + 1, 0, none⟩) 1 1]) (by simp [results, Try.results18, go_sem]) rfl ⟨_, rfl, ?_, ((Below.refl _ _).alloc (Nat.le_refl _) _).alloc (le_alloc _ (Nat.le_refl _)) _⟩
  rw [show (#[.int .i64 0, .int .i8 0, .int .i8 0, .int .i8 0, .int .i8 0, .int .i8 0, .int .i8 0, .int .i8 0, .int .i8 0, .int .i8 0, .int .i8 0, .int .i8 0, .int .i8 0, .int .i8 0, .int .i8 0, .int .i8 0, .int .i8 0, .int .i8 0, .int .i8 0, .int .i8 0, .int .i8 0, .int .i8 0, .int .i8 0] : Array Value) = hd0.cells.toArray from rfl]
  have := hints_new (w.alloc (.cells #[.int .i64 0, .slice (some ⟨w.heap.size + 1, 0, none⟩) 1 1] 24)) hd0 hd0_wf
  simpa using this
end Go.Proofs.Ytmnokkomhgpmmaa
