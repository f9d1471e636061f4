/-
  Which blocks are reached: latheref04.Reach; two rows of bools, the same? Conditions: those written in each statement.
-/
import Derived.Test.YtbdofidapddgaaaBi
namespace Go.Proofs.Ytbdofidapddgaaa
open Go.RowKit
set_option linter.unusedVariables false
set_option linter.unusedSimpArgs false
/-- What is marked so far, and whether a round has marked one. -/
structure Ot (l : List BD) (O0 O : List Bool) (a : Bool) : Prop where
  mono : Mono O0 O
  zero : O[0]? = some true
  sound : ∀ i : Nat, O[i]? = some true → Rt l 0 i
  none_ : a = false → O = O0
  some_ : a = true → cntF O < cntF O0
def ClB (l : List BD) (O : List Bool) (b : Nat) : Prop := ∀ (i : Nat) (x : BD), i < b → O[i]? = some true → l[i]? = some x → ∀ y ∈ x.next, O[y.toNat]? = some true
def ClK (O : List Bool) (nx : List Int) (k : Nat) : Prop := ∀ (t : Nat) (y : Int), t < k → nx[t]? = some y → O[y.toNat]? = some true
theorem Ot.set {l : List BD} {O0 O : List Bool} {a : Bool} {b : Nat} {x : BD} {y : Int} (h : Ot l O0 O a) (hb : O[b]? = some true) (hx : l[b]? = some x) (hy : y ∈ x.next) (hf : O[y.toNat]? = some false) : Ot l O0 (O.set y.toNat true) true := by
  have hlt := (List.getElem?_eq_some_iff.1 hf).1
  refine ⟨h.mono.trans mono_set, mono_set.2 _ h.zero, fun i hi => ?_, (fun e => by cases e), fun _ => ?_⟩
  · rw [List.getElem?_set] at hi
    split at hi
    · rename_i e
      subst e
      exact (h.sound b hb).trans (Rt.step hx hy)
    · exact h.sound i hi
  · have h1 := cnt_set hf
    have h2 := cnt_mono h.mono
    omega
theorem Ot.done {l : List BD} {O0 O : List Bool} (h : Ot l O0 O false) (hl : O0.length = l.length) (hc : ClB l O l.length) : IsR l O :=
  ⟨by rw [h.mono.1, hl], h.zero, (fun i x h1 h2 y hy => hc i x (List.getElem?_eq_some_iff.1 h2).1 h1 h2 y hy), h.sound⟩
/-- The document's marks in a world. -/
structure OtF (A : Option Addr) (n : Nat) (l : List BD) (gs : Nat) (O : List Bool) (w W : World) : Prop where
  blks : BksAt W w.heap.size A n l
  row : RowL W w.heap.size 4 1 (.slice (some ⟨gs, 0, none⟩) n n) n (bC O)
  below : Below w.heap.size w W
section
variable {A : Option Addr} {n gs : Nat} {l : List BD} {O : List Bool} {w W : World}
theorem OtF.len (h : OtF A n l gs O w W) : O.length = n := by
  have := h.row.1
  unfold bC at this
  simpa using this
theorem OtF.cell (h : OtF A n l gs O w W) {i : Nat} {b : Bool} (hi : O[i]? = some b) : W.cell? ⟨gs, i, none⟩ = some (.bool b) := by
  rw [h.row.cell i (by have := (List.getElem?_eq_some_iff.1 hi).1; have := h.len; omega)]
  exact bC_at hi
theorem OtF.set (h : OtF A n l gs O w W) (i : Nat) : OtF A n l gs (O.set i true) w (W.setCell ⟨gs, i, none⟩ (.bool true)) := by
  obtain ⟨r1, r2⟩ := h.row.stored i (.bool true)
  rw [bC_set] at r1
  have hge := (h.row.ge gs rfl).1
  exact ⟨h.blks.grown r2 h.below.size (fun g e => by injection e with e; omega), r1, h.below.grown r2 h.below.size (fun g e => by injection e with e; omega)⟩
end
theorem cnt_le (S : List Bool) : cntF S ≤ S.length := List.count_le_length
/-- Closed in a row up to a place, unless marks have come. -/
def Cl2 (l : List BD) (O0 : List Bool) (a : Bool) (b : Nat) : Prop := a = false → ClB l O0 b
def Cl3 (l : List BD) (O0 : List Bool) (a : Bool) (b k : Nat) (nx : List Int) : Prop := a = false → ClB l O0 b ∧ (O0[b]? = some true → ClK O0 nx k)
theorem Cl3.start {l : List BD} {O0 : List Bool} {a : Bool} {b : Nat} {nx : List Int} (h : Cl2 l O0 a b) : Cl3 l O0 a b 0 nx := fun e => ⟨h e, fun _ t y ht => by omega⟩
theorem Cl3.next {l : List BD} {O0 O : List Bool} {a : Bool} {b k : Nat} {nx : List Int} {y : Int} (h : Cl3 l O0 a b k nx) (ho : Ot l O0 O a) (hy : nx[k]? = some y) (hm : O[y.toNat]? = some true) : Cl3 l O0 a b (k + 1) nx := fun e => by
  obtain ⟨h1, h2⟩ := h e
  refine ⟨h1, fun hb t z ht hz => ?_⟩
  rcases Nat.lt_or_ge t k with q | q
  · exact h2 hb t z q hz
  · obtain rfl : t = k := by omega
    rw [hy] at hz
    obtain rfl := Option.some.inj hz
    rw [← ho.none_ e]
    exact hm
theorem Cl3.end_ {l : List BD} {O0 : List Bool} {a : Bool} {b : Nat} {nx : List Int} {x : BD} (h : Cl3 l O0 a b nx.length nx) (hx : l[b]? = some x) (hn : x.next = nx) : Cl2 l O0 a (b + 1) := fun e => by
  obtain ⟨h1, h2⟩ := h e
  intro i w hi hO hw y hy
  rcases Nat.lt_or_ge i b with q | q
  · exact h1 i w q hO hw y hy
  · obtain rfl : i = b := by omega
    rw [hx] at hw
    obtain rfl := Option.some.inj hw
    rw [hn] at hy
    obtain ⟨t, ht, rfl⟩ := List.getElem_of_mem hy
    exact h2 hO t _ ht (List.getElem?_eq_getElem ht)
theorem Cl3.off {l : List BD} {O0 O : List Bool} {a : Bool} {b k : Nat} {nx : List Int} (h : Cl3 l O0 a b k nx) (ho : Ot l O0 O a) (hf : O[b]? = some false) : Cl2 l O0 a (b + 1) := fun e => by
  obtain ⟨h1, h2⟩ := h e
  intro i w hi hO hw y hy
  rcases Nat.lt_or_ge i b with q | q
  · exact h1 i w q hO hw y hy
  · obtain rfl : i = b := by omega
    rw [← ho.none_ e, hf] at hO
    cases hO
set_option maxRecDepth 100000 in
set_option maxHeartbeats 8000000 in
theorem dreach_any (A : Option Addr) (n c : Nat) (l : List BD) (w : World) (hh : BksAt w w.heap.size A n l) (hm : n < 9223372036854775808) :
    Calls Try.prog 24 #[.slice A n c] w (RcP l w) := by
  have HL := hide hh.len
  have HF := hide (⟨hh, Below.refl _ _⟩ : BfF A n l w w)
  clear hh
  go_enter Try.func24, Try.ntmps24
  go_wp2_with fail
  refine (dmay_any A n c w.heap.size l _ HF.out.blks hm).mono ?_
  rintro e w1 ⟨rfl, hd⟩
  have hb := dr_below hd w.heap.size
  replace HF := hide (HF.out.low hb)
  clear hb hd
  cases hmy : mayL l
  · have HM := hide hmy
    clear hmy
    go_wp2
    go_ret
    exact rcp_nil (.inr HM.out) HF.out.below
  · have HM := hide hmy
    have hn64 : n ≤ 64 := by rw [← HL.out]; exact mayL_few hmy
    clear hmy
    by_cases hn0 : n = 0
    · subst hn0
      go_wp2
      go_ret
      exact rcp_nil (.inl HL.out) HF.out.below
    · have hd : ((n : Int) == 0) = false := by simp; omega
      have hn1 : 0 < n := by omega
      have hn1' : (0 : Int) < (n : Int) := by omega
      obtain ⟨iB, hiB, hzB, hsB, hbB⟩ := info_parts infB
      have IB := hide (And.intro hiB (And.intro hzB (And.intro hsB hbB)))
      clear hiB hzB hsB hbB
      have hsz1 := HF.out.below.size
      go_upto_region 4 with (first
        | (refine wpList_make_full _ rfl (.tmp 17) (.tmp 17) 43 rfl w.heap.size 4 iB _ 1 Try.underlying43 IB.out.1 IB.out.2.1 IB.out.2.2.1 .i64 .i64 (n : Int) (n : Int) n (by rfl) (by rfl) rfl rfl (by rw [IB.out.2.2.2]; omega) (by unfold maxLen; omega) (by omega) ?_
           intro w3 O3 G3
           rw [made_false] at O3
           have HF3 := hide (OtF.mk (HF.out.low (((Below.refl w.heap.size w1).grown G3 (by omega) (fun g e => by cases e)))).blks (RowL.of_own O3) (HF.out.low (((Below.refl w.heap.size w1).grown G3 (by omega) (fun g e => by cases e)))).below : OtF A n l w1.heap.size (List.replicate n false) w w3)
           clear O3 G3))
      obtain ⟨gs, hgs⟩ : ∃ v, w1.heap.size = v := ⟨_, rfl⟩
      rw [hgs] at HF3 hsz1 ⊢
      have fz := HF3.out.row.frozen 0
      have fc := HF3.out.cell (i := 0) (b := false) (by rw [List.getElem?_replicate, if_pos hn1])
      clear hgs
      go_upto_region 6 with fail
      have HF5 := hide (HF3.out.set 0)
      have HZ := hide (set_true (S := List.replicate n false) (b := 0) (by simpa using hn1))
      have HS0 := hide (fun (i : Nat) (hi : ((List.replicate n false).set 0 true)[i]? = some true) => (by
        rw [List.getElem?_set] at hi
        split at hi
        · rename_i e; subst e; exact Rt.refl _ _
        · exact (rep_false hi).elim : Rt l 0 i))
      have HLO := hide (show ((List.replicate n false).set 0 true).length = n by simp)
      obtain ⟨O1, hO1⟩ : ∃ v, (List.replicate n false).set 0 true = v := ⟨_, rfl⟩
      rw [hO1] at HF5 HZ HS0 HLO
      generalize w3.setCell ⟨gs, 0, none⟩ (.bool true) = w5 at HF5 ⊢
      clear fz fc hO1 HF3
      go_loopg [4] (2 * n + 1) (fun g av wr => ∃ (O : List Bool) (a : Bool), av = .bool a ∧ 2 * cntF O + (if a = true then 1 else 0) ≤ g ∧ O[0]? = some true ∧ (∀ i : Nat, O[i]? = some true → Rt l 0 i) ∧ (a = false → ClB l O n) ∧ OtF A n l gs O w wr)
      case atStart =>
        refine ⟨O1, true, rfl, ?_, HZ.out, HS0.out, (fun e => by cases e), HF5.out⟩
        have := cnt_le O1
        have := HLO.out
        simp
        omega
      case round =>
        obtain ⟨O, a, rfl, hgk, hz0, hsd, hcl, hf⟩ := hrel
        have HF5 := hide hf
        have HZ := hide hz0
        have HSD := hide hsd
        have HCL := hide hcl
        have HGK := hide hgk
        clear hf hz0 hsd hcl hgk HS0 HLO
        cases a
        · go_wp2
          go_ret
          have HIF : (if l.length = 0 ∨ mayL l = false then O = [] else IsR l O) := by
            rw [if_neg]
            · have := HCL.out (by first | rfl | trivial)
              rw [← HL.out] at this
              exact ⟨by rw [HF5.out.len, HL.out], HZ.out, (fun i x h1 h2 y hy => this i x (List.getElem?_eq_some_iff.1 h2).1 h1 h2 y hy), HSD.out⟩
            · rintro (h | h)
              · exact hn0 (HL.out.symm.trans h)
              · rw [HM.out] at h; cases h
          obtain ⟨A6, c6, e6, _, hr6⟩ := HF5.out.row.slice
          injection e6 with e6 _ _
          subst e6
          exact ⟨O, some ⟨gs, 0, none⟩, n, HIF, by rw [HF5.out.len]; rfl, by rw [HF5.out.len]; exact hr6, HF5.out.below⟩
        · have hg1 : 1 ≤ gk := by have := HGK.out; simp at this; omega
          obtain ⟨g, rfl⟩ : ∃ g, gk = g + 1 := ⟨gk - 1, by omega⟩
          go_wp2_with fail
          obtain ⟨wo, rfl⟩ : ∃ wo : World, wo = wr := ⟨_, rfl⟩
          go_loopw [4, 5] (fun av bv wq => ∃ (bb : Nat) (O' : List Bool) (a' : Bool), bb ≤ n ∧ bv = .int .i64 bb ∧ av = .bool a' ∧ Ot l O O' a' ∧ Cl2 l O a' bb ∧ OtF A n l gs O' w wq) (fun _ bv _ => n - (intOf bv).toNat)
          case atStart => exact ⟨0, O, false, by omega, rfl, rfl, ⟨Mono.refl _, HZ.out, HSD.out, fun _ => rfl, (fun e => by cases e)⟩, (fun _ i x h => by omega), HF5.out⟩
          case round =>
            obtain ⟨bb, O', a', hbb, rfl, rfl, hot, hcl, hf⟩ := hrel
            have HF5 := hide hf
            have HOT := hide hot
            have HC2 := hide hcl
            clear hf hot hcl
            by_cases hlb : bb < n
            · obtain ⟨x, hx⟩ : ∃ x, l[bb]? = some x := ⟨l[bb]'(by have := HL.out; omega), List.getElem?_eq_getElem _⟩
              have HX := hide hx
              obtain ⟨fr, tt, nx⟩ := x
              obtain ⟨m, hm2⟩ : ∃ v, nx.length = v := ⟨_, rfl⟩
              have HMM := hide hm2
              clear hx hm2
              go_wp2_with fail
              obtain ⟨wo2, rfl⟩ : ∃ wo : World, wo = wr := ⟨_, rfl⟩
              go_loopw [4, 6] (fun av kv wq => ∃ (kk : Nat) (O' : List Bool) (a' : Bool), kk ≤ m ∧ kv = .int .i64 kk ∧ av = .bool a' ∧ Ot l O O' a' ∧ Cl3 l O a' bb kk nx ∧ OtF A n l gs O' w wq) (fun _ kv _ => m - (intOf kv).toNat)
              case atStart => exact ⟨0, O', a', by omega, rfl, rfl, HOT.out, Cl3.start HC2.out, HF5.out⟩
              case round =>
                obtain ⟨kk, O', a', hkk, rfl, rfl, hot, hcl, hf⟩ := hrel
                clear HOT HC2 HF5
                have HF5 := hide hf
                have HOT := hide hot
                have HC3 := hide hcl
                obtain ⟨ad, x', s, rfl, hab, hx', _, hns, hcell⟩ := hf.blks.at_ hlb
                obtain rfl : x' = ⟨fr, tt, nx⟩ := by
                  have := HX.out
                  rw [hx'] at this
                  exact Option.some.inj this
                dsimp only at hns
                obtain ⟨As, cs, rfl⟩ := hns.form
                have e2 := hcell 2 _ rfl
                obtain ⟨p, hp⟩ : ∃ p, ad.add (bb * 3) = p := ⟨_, rfl⟩
                rw [hp] at e2
                simp [Addr.add] at e2
                have hml : nx.length < 9223372036854775808 := hns.len.2.2
                rw [HMM.out] at hns e2 hml
                have HNS := hide hns
                have hol := hf.len
                have HOL := hide hol
                clear hf hot hcl hx' hcell hns
                by_cases hlk : kk < m
                · rcases bool_at (S := O') (i := bb) (by omega) with hob | hob
                  · have cob := HF5.out.cell hob
                    have HOB := hide hob
                    obtain ⟨ad3, y, rfl, _, hy, hyi, hcy⟩ := HNS.out.at_ hlk
                    have HY := hide hy
                    have hyx := List.mem_of_getElem? hy
                    obtain ⟨hy0, hy1⟩ := next_in HM.out HX.out hyx
                    have HYX := hide hyx
                    rw [HL.out] at hy1
                    obtain ⟨yn, rfl⟩ := Int.eq_ofNat_of_zero_le hy0
                    have hyn' : yn < n := by omega
                    clear hy hyi hob hyx
                    rcases bool_at (S := O') (i := yn) (by omega) with hoy | hoy
                    · have coy := HF5.out.cell hoy
                      have HOY := hide hoy
                      clear hoy hol
                      go_wp2
                      go_roundw
                      case measure => simp [intOf]; omega
                      case rel => exact ⟨kk + 1, O', a', by omega, by go_num, rfl, HOT.out, HC3.out.next HOT.out HY.out (by simpa using HOY.out), HF5.out⟩
                    · have coy := HF5.out.cell hoy
                      have foy := HF5.out.row.frozen yn
                      have HOY := hide hoy
                      clear hoy hol
                      go_wp2
                      go_roundw
                      case measure => simp [intOf]; omega
                      case rel => exact ⟨kk + 1, O'.set yn true, true, by omega, by go_num, rfl, by simpa using HOT.out.set HOB.out HX.out HYX.out (by simpa using HOY.out), (fun e => by cases e), HF5.out.set yn⟩
                  · have cob := HF5.out.cell hob
                    have HNX := hide (HC3.out.off HOT.out hob)
                    clear hob hol
                    go_wp2
                    go_roundw
                    case measure => simp [intOf]; omega
                    case rel => exact ⟨bb + 1, O', a', by omega, by go_num, rfl, HOT.out, HNX.out, HF5.out⟩
                · obtain rfl : kk = m := by omega
                  have hc3 := HC3.out
                  rw [← HMM.out] at hc3
                  have HNX := hide (hc3.end_ HX.out rfl)
                  clear hc3 HC3 hol
                  go_wp2
                  go_roundw
                  case measure => simp [intOf]; omega
                  case rel => exact ⟨bb + 1, O', a', by omega, by go_num, rfl, HOT.out, HNX.out, HF5.out⟩
            · obtain rfl : bb = n := by omega
              have hc2 := HC2.out
              go_wp2
              go_roundg g
              case measure => omega
              case rel =>
                refine ⟨O', a', rfl, ?_, HOT.out.zero, HOT.out.sound, fun e => by rw [HOT.out.none_ e]; exact hc2 e, HF5.out⟩
                have hgk := HGK.out
                have := cnt_mono HOT.out.mono
                cases a'
                · simp at hgk ⊢; omega
                · have := HOT.out.some_ rfl
                  simp at hgk ⊢; omega
end Go.Proofs.Ytbdofidapddgaaa
