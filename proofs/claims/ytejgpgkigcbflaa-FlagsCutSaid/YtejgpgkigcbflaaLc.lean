/-
  The walk of FlagsCut: it answers true. Conditions: none but that numbers fit their kinds.
-/
import Derived.Test.YtejgpgkigcbflaaLb
namespace Go.Proofs.Ytejgpgkigcbflaa
open Go.RowKit
theorem add_congr {w a b a' b' : Int} (h : cutW w a' = cutW w a) (g : cutW w b' = cutW w b) : addC w a' b' = addC w a b ∧ addZ w a' b' = addZ w a b ∧ addS w a' b' = addS w a b ∧ addO w a' b' = addO w a b := by
  have hs : sumW w a' b' = sumW w a b := by rw [sumW, h, g]; rfl
  have hn : negW w a' = negW w a := by rw [negW, h]; rfl
  have hm : negW w b' = negW w b := by rw [negW, g]; rfl
  have hS : addS w a' b' = addS w a b := by rw [addS, hs]; rfl
  exact ⟨by rw [addC, h, g]; rfl, by rw [addZ, hs]; rfl, hS, by rw [addO, hn, hm, hS]; rfl⟩
theorem sub_congr {w a b a' b' : Int} (h : cutW w a' = cutW w a) (g : cutW w b' = cutW w b) : subC w a' b' = subC w a b ∧ subZ w a' b' = subZ w a b ∧ subS w a' b' = subS w a b ∧ subO w a' b' = subO w a b := by
  have hs : difW w a' b' = difW w a b := by rw [difW, h, g]; rfl
  have hn : negW w a' = negW w a := by rw [negW, h]; rfl
  have hm : negW w b' = negW w b := by rw [negW, g]; rfl
  have hS : subS w a' b' = subS w a b := by rw [subS, hs]; rfl
  exact ⟨by rw [subC, h, g]; rfl, by rw [subZ, hs]; rfl, hS, by rw [subO, hn, hm, hS]; rfl⟩
theorem add_comm_ (w a b : Int) : addC w b a = addC w a b ∧ addZ w b a = addZ w a b ∧ addS w b a = addS w a b ∧ addO w b a = addO w a b := by
  have hs : sumW w b a = sumW w a b := by rw [sumW, Int.add_comm]; rfl
  have hS : addS w b a = addS w a b := by rw [addS, hs]; rfl
  refine ⟨by rw [addC, Int.add_comm]; rfl, by rw [addZ, hs]; rfl, hS, ?_⟩
  rw [addO, addO, hS]
  cases negW w a <;> cases negW w b <;> rfl
theorem sub_self_ (w a : Int) (hw : Wd w) : subC w a a = false ∧ subZ w a a = true ∧ subS w a a = false ∧ subO w a a = false := by
  have hd : difW w a a = 0 := by rw [difW, Int.sub_self]; exact Int.zero_emod _
  have hS : subS w a a = false := by
    rw [subS, hd]
    rcases hw with rfl | rfl <;> simp [halfW]
  refine ⟨by simp [subC], by rw [subZ, hd]; rfl, hS, ?_⟩
  rw [subO]
  simp
/-- a's lowest 32 bits behind c's highest. -/
def mixW (a c : Int) : Int := bits .or .u64 (bits .and .u64 a 4294967295) (bits .andNot .u64 c 4294967295)
theorem mix_ok {a c : Int} (ha : U a) (hc : U c) : U (mixW a c) ∧ cutW 32 (mixW a c) = cutW 32 a := by
  have h1 := u64_and a 4294967295 ha.1 ha.2 (by omega) (by omega)
  have h2 := u64_andNot c 4294967295 hc.1 hc.2 (by omega) (by omega)
  have l1 : a.toNat &&& (4294967295 : Int).toNat < 2 ^ 64 := Nat.and_lt_two_pow _ (by decide)
  have l2 : c.toNat &&& (18446744073709551615 - (4294967295 : Int).toNat) < 2 ^ 64 := Nat.and_lt_two_pow _ (by decide)
  have h3 : mixW a c = (((a.toNat &&& (4294967295 : Int).toNat) ||| (c.toNat &&& (18446744073709551615 - (4294967295 : Int).toNat)) : Nat) : Int) := by
    rw [mixW, h1, h2, u64_or_nat _ _ l1 l2]
  refine ⟨by rw [h3]; exact U_nat (Nat.or_lt_two_pow l1 l2), ?_⟩
  rw [h3]
  have e1 : ((a.toNat &&& (4294967295 : Int).toNat) ||| (c.toNat &&& (18446744073709551615 - (4294967295 : Int).toNat))) % 2 ^ 32 = a.toNat % 2 ^ 32 := by
    rw [Nat.or_mod_two_pow, Nat.and_mod_two_pow (a := c.toNat), show (18446744073709551615 - (4294967295 : Int).toNat) % 2 ^ 32 = 0 by decide, Nat.and_zero, Nat.or_zero, show (4294967295 : Int).toNat = 4294967295 from rfl, nat_mask32]
    omega
  unfold cutW
  rw [if_pos rfl, if_pos rfl]
  have := ha.1
  omega
set_option maxRecDepth 100000 in
set_option maxHeartbeats 4000000 in
theorem cut_walk (a b c d : Int) (wa : (Lit.int .u64 a).wf = true) (wb : (Lit.int .u64 b).wf = true) (wc : (Lit.int .u64 c).wf = true) (wd : (Lit.int .u64 d).wf = true) (w : World) :
    Calls Try.prog 6 #[.int .u64 a, .int .u64 b, .int .u64 c, .int .u64 d] w fun e w' => e = .returned (.bool true) ∧ Below w.heap.size w w' := by
  have ha := U_ok wa
  have hb := U_ok wb
  have hA := mix_ok ha (U_ok wc)
  have hB := mix_ok hb (U_ok wd)
  have E1 := hide (add_congr hA.2 hB.2)
  have E2 := hide (sub_congr hA.2 hB.2)
  have E3 := hide (add_comm_ 64 a b)
  have E4 := hide (sub_self_ 64 a (.inr rfl))
  have UA := hA.1
  have UB := hB.1
  have e1 := eq_same true (addC 32 a b) (addZ 32 a b) (addS 32 a b) (addO 32 a b)
  have e2 := eq_same true (subC 32 a b) (subZ 32 a b) (subS 32 a b) (subO 32 a b)
  have e3 := eq_same true (addC 64 a b) (addZ 64 a b) (addS 64 a b) (addO 64 a b)
  have e4 := eq_same true false true false false
  clear wa wb wc wd hA hB
  go_enter Try.func6, Try.ntmps6
  go_wp2_with fail
  refine (add_yes a b 32 _ (.inl rfl) ha hb).mono ?_
  rintro e w1 ⟨rfl, hb1⟩
  have H1 := hb1
  clear hb1
  go_wp2_with fail
  refine (add_yes (mixW a c) (mixW b d) 32 _ (.inl rfl) UA UB).mono ?_
  rintro e w2 ⟨rfl, hb2⟩
  rw [E1.out.1, E1.out.2.1, E1.out.2.2.1, E1.out.2.2.2]
  have B1 : Blk w2 w1.heap.size 25 _ := (Blk.new w1 _ _).below hb2 (by simp)
  have H2 := (H1.alloc H1.size _).trans (hb2.mono (le_alloc _ H1.size))
  clear hb2 H1
  go_wp2_with fail
  refine (sub_yes a b 32 _ (.inl rfl) ha hb).mono ?_
  rintro e w3 ⟨rfl, hb3⟩
  replace B1 := (B1.alloc _).below hb3 (by have := B1.lt; simp; omega)
  have B2 : Blk w3 w2.heap.size 25 _ := (Blk.new w2 _ _).below hb3 (by simp)
  have H3 := (H2.alloc H2.size _).trans (hb3.mono (le_alloc _ H2.size))
  clear hb3 H2
  go_wp2_with fail
  refine (sub_yes (mixW a c) (mixW b d) 32 _ (.inl rfl) UA UB).mono ?_
  rintro e w4 ⟨rfl, hb4⟩
  rw [E2.out.1, E2.out.2.1, E2.out.2.2.1, E2.out.2.2.2]
  replace B1 := (B1.alloc _).below hb4 (by have := B1.lt; simp; omega)
  replace B2 := (B2.alloc _).below hb4 (by have := B2.lt; simp; omega)
  have B3 : Blk w4 w3.heap.size 25 _ := (Blk.new w3 _ _).below hb4 (by simp)
  have H4 := (H3.alloc H3.size _).trans (hb4.mono (le_alloc _ H3.size))
  clear hb4 H3
  go_wp2_with fail
  refine (add_yes a b 64 _ (.inr rfl) ha hb).mono ?_
  rintro e w5 ⟨rfl, hb5⟩
  replace B1 := (B1.alloc _).below hb5 (by have := B1.lt; simp; omega)
  replace B2 := (B2.alloc _).below hb5 (by have := B2.lt; simp; omega)
  replace B3 := (B3.alloc _).below hb5 (by have := B3.lt; simp; omega)
  have B4 : Blk w5 w4.heap.size 25 _ := (Blk.new w4 _ _).below hb5 (by simp)
  have H5 := (H4.alloc H4.size _).trans (hb5.mono (le_alloc _ H4.size))
  clear hb5 H4
  go_wp2_with fail
  refine (add_yes b a 64 _ (.inr rfl) hb ha).mono ?_
  rintro e w6 ⟨rfl, hb6⟩
  rw [E3.out.1, E3.out.2.1, E3.out.2.2.1, E3.out.2.2.2]
  replace B1 := (B1.alloc _).below hb6 (by have := B1.lt; simp; omega)
  replace B2 := (B2.alloc _).below hb6 (by have := B2.lt; simp; omega)
  replace B3 := (B3.alloc _).below hb6 (by have := B3.lt; simp; omega)
  replace B4 := (B4.alloc _).below hb6 (by have := B4.lt; simp; omega)
  have B5 : Blk w6 w5.heap.size 25 _ := (Blk.new w5 _ _).below hb6 (by simp)
  have H6 := (H5.alloc H5.size _).trans (hb6.mono (le_alloc _ H5.size))
  clear hb6 H5
  go_wp2_with fail
  refine (sub_yes a a 64 _ (.inr rfl) ha ha).mono ?_
  rintro e w7 ⟨rfl, hb7⟩
  rw [E4.out.1, E4.out.2.1, E4.out.2.2.1, E4.out.2.2.2]
  replace B1 := (B1.alloc _).below hb7 (by have := B1.lt; simp; omega)
  replace B2 := (B2.alloc _).below hb7 (by have := B2.lt; simp; omega)
  replace B3 := (B3.alloc _).below hb7 (by have := B3.lt; simp; omega)
  replace B4 := (B4.alloc _).below hb7 (by have := B4.lt; simp; omega)
  replace B5 := (B5.alloc _).below hb7 (by have := B5.lt; simp; omega)
  have B6 : Blk w7 w6.heap.size 25 _ := (Blk.new w6 _ _).below hb7 (by simp)
  have H7 := (H6.alloc H6.size _).trans (hb7.mono (le_alloc _ H6.size))
  clear hb7 H6
  obtain ⟨q10, q11, q12, q13, q14⟩ := B1.five
  have lt1 := B1.lt
  clear B1
  obtain ⟨q20, q21, q22, q23, q24⟩ := B2.five
  have lt2 := B2.lt
  clear B2
  obtain ⟨q30, q31, q32, q33, q34⟩ := B3.five
  have lt3 := B3.lt
  clear B3
  obtain ⟨q40, q41, q42, q43, q44⟩ := B4.five
  have lt4 := B4.lt
  clear B4
  obtain ⟨q50, q51, q52, q53, q54⟩ := B5.five
  have lt5 := B5.lt
  clear B5
  obtain ⟨q60, q61, q62, q63, q64⟩ := B6.five
  have lt6 := B6.lt
  clear B6
  go_wp2_with (go_at_call 11; refine (wakes_any _).mono ?_; rintro e wk ⟨rfl, hbk⟩)
  go_ret
  exact ⟨rfl, (H7.alloc H7.size _).trans (hbk.mono (le_alloc _ H7.size))⟩
end Go.Proofs.Ytejgpgkigcbflaa
