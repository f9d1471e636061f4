/-
  latheref03.Same: are two programs the same, the document's. Conditions: those written in each statement.
-/
import Derived.Test.YtopanomcbkhbnaaIh
namespace Go.Proofs.Ytopanomcbkhbnaa
open Go.RowKit
set_option linter.unusedVariables false
set_option linter.unusedSimpArgs false
def QRel (hs ho : List ID) (W : World) (A A2 : Option Addr) (n c n2 c2 : Nat) (i : Value) (wr : World) : Prop :=
  ∃ k : Nat, k ≤ n ∧ i = .int .i64 k ∧ (∀ j x y, j < k → hs[j]? = some x → ho[j]? = some y → eqL x.cells y.cells = true) ∧ InsAt wr W.heap.size A n hs ∧ InsAt wr W.heap.size A2 n2 ho ∧
    wr.cell? ⟨W.heap.size, 1, none⟩ = some (.slice A n c) ∧ wr.cell? ⟨W.heap.size + 1, 1, none⟩ = some (.slice A2 n2 c2) ∧ Below W.heap.size W wr
set_option maxRecDepth 100000 in
set_option maxHeartbeats 1000000 in
theorem rsame_any (s t : Int) (A A2 : Option Addr) (n c n2 c2 : Nat) (hs ho : List ID) (w : World) (hh : InsAt w w.heap.size A n hs) (hh2 : InsAt w w.heap.size A2 n2 ho) (hc : n ≤ c) (hc2 : n2 ≤ c2) (hm : n < 9223372036854775808) (hm2 : n2 < 9223372036854775808) :
    Calls Try.prog 22 #[.agg #[.int .i64 s, .slice A n c], .agg #[.int .i64 t, .slice A2 n2 c2]] w fun e w' => e = .returned (.bool (sameB s t hs ho)) ∧ Below w.heap.size w w' := by
  have HH := hide hh
  have HH2 := hide hh2
  have hl := hide hh.1
  have hl2 := hide hh2.1
  obtain ⟨iH, hiH, hzH, hsH, _⟩ := info_parts infI
  have IH := hide (And.intro hiH (And.intro hzH hsH))
  clear hh hh2 hiH hzH hsH
  have hbl : Below w.heap.size w ((w.alloc (.cells #[.int .i64 s, .slice A n c] 24)).alloc (.cells #[.int .i64 t, .slice A2 n2 c2] 24)) := ((Below.refl _ _).alloc (Nat.le_refl _) _).alloc (le_alloc _ (Nat.le_refl _)) _
  have HBL := hide hbl
  clear hbl
  by_cases h1 : s = t
  · subst h1
    have b1 : (s != s) = false := by simp
    by_cases h2 : n = n2
    · subst h2
      have b2 : (n != n) = false := by simp
      go_enter Try.func22, Try.ntmps22
      go_wp2
      go_loopw [5] (fun i wr => QRel hs ho w A A2 n c n c2 i wr) (fun i _ => n - (intOf i).toNat)
      case atStart => exact ⟨0, by omega, rfl, by omega, HH.out.below HBL.out, HH2.out.below HBL.out, by simp, by simp, HBL.out⟩
      case round =>
        obtain ⟨k, hk, rfl, hno, hat, hat2, hcr, hcr2, hbl⟩ := hrel
        have HB := hide hbl
        have HN := hide hno
        clear hbl hno HBL
        by_cases hlt : k < n
        · obtain ⟨ad, x, rfl, hab, hx, hxw, hcell⟩ := hat.at_ hlt
          obtain ⟨ad2, y, rfl, hab2, hy, hyw, hcell2⟩ := hat2.at_ hlt
          have HX := hide hx
          have HY := hide hy
          have HAT := hide hat
          have HAT2 := hide hat2
          have HC := hide hcell
          have HC2 := hide hcell2
          have hlx := hide (ID.cells_len x)
          have hly := hide (ID.cells_len y)
          have hE0 := fun W => neq_id hxw hyw W
          have hki : (k : Int) < n := by omega
          clear hx hy hat hat2 hcell hcell2 hxw hyw
          cases he : eqL x.cells y.cells
          all_goals
            rw [he] at hE0
            have hE := hE0
            clear hE0
            have HE := hide he
            clear he
            go_wp2_with fail
            refine wp_region_quiet_lit (by kernel_rfl) (by kernel_rfl) ?_
            repeat (first
              | (refine wpQuiet_load rfl 32 (.tmp 30) rfl (ad.add (k * 9)) rfl x.cells _ HC.out Try.underlying32 rfl (by exact sizI) ?_; go_simp)
              | (refine wpQuiet_load rfl 32 (.tmp 35) rfl (ad2.add (k * 9)) rfl y.cells _ HC2.out Try.underlying32 rfl (by exact sizI) ?_; go_simp)
              | go_big_quiet_step (fail))
            refine wpQuiet_nil ?_
            intro nq
            go_wp2
          · go_ret
            have hf : sameR hs ho = false := by
              cases hq : sameR hs ho with
              | false => rfl
              | true =>
                have := ((sameR_iff hs ho).1 hq).2 k x y HX.out HY.out
                rw [HE.out] at this
                cases this
            exact ⟨ret_b (by simp [sameB, hf]), below_drewN HB.out _⟩
          · go_roundw
            case measure => simp [intOf]; omega
            case rel =>
              refine ⟨k + 1, by omega, by go_num, fun j p q hj hp hq => ?_, HAT.out, HAT2.out, hcr, hcr2, below_drewN HB.out _⟩
              rcases Nat.lt_or_ge j k with h | h
              · exact HN.out j p q h hp hq
              · obtain rfl : j = k := by omega
                have h1 := HX.out
                have h2 := HY.out
                rw [hp] at h1
                rw [hq] at h2
                obtain rfl := Option.some.inj h1
                obtain rfl := Option.some.inj h2
                exact HE.out
        · obtain rfl : k = n := by omega
          clear hk hlt
          go_wp2
          go_ret
          have hf : sameR hs ho = true := (sameR_iff hs ho).2 ⟨by rw [hl.out, hl2.out], fun j p q hp hq => HN.out j p q (by have := (List.getElem?_eq_some_iff.1 hp).1; have := hl.out; omega) hp hq⟩
          exact ⟨ret_b (by simp [sameB, hf]), HB.out⟩
    · have b2 : (n != n2) = true := by simpa using h2
      have hf : sameR hs ho = false := by
        cases hq : sameR hs ho with
        | false => rfl
        | true => exact absurd ((sameR_iff hs ho).1 hq).1 (by rw [hl.out, hl2.out]; exact h2)
      have HF := hide hf
      clear hf h2
      go_enter Try.func22, Try.ntmps22
      go_wp2
      go_ret
      exact ⟨ret_b (by simp [sameB, HF.out]), HBL.out⟩
  · have b1 : (s != t) = true := by simpa using h1
    have hst : (s == t) = false := by simpa using h1
    have HF := hide hst
    clear h1 hst
    go_enter Try.func22, Try.ntmps22
    go_wp2
    go_ret
    exact ⟨ret_b (by simp [sameB, HF.out]), HBL.out⟩
end Go.Proofs.Ytopanomcbkhbnaa
