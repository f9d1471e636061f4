/-
  Who goes on to a block: latheref04.Before, blocks.Before; which blocks are too many to be asked. Conditions: those written in each statement.
-/
import Derived.Test.YtbdofidapddgaaaBf
namespace Go.Proofs.Ytbdofidapddgaaa
open Go.RowKit
set_option linter.unusedVariables false
set_option linter.unusedSimpArgs false
theorem infT : (Try.prog.info? 3).map (fun i => (i.zero, i.size, i.bytes)) = some (some (.int .i64 0), 1, 8) := by kernel_rfl
def hasN (l : List BD) (b : Int) (i : Nat) : Bool := match l[i]? with
  | some x => decide (b ∈ x.next)
  | none => false
def befT (l : List BD) (b : Int) (k : Nat) : List Int := ((List.range k).filter (hasN l b)).map Int.ofNat
def befL (l : List BD) (b : Int) : List Int := if mayL l then befT l b l.length else []
theorem befT_succ (l : List BD) (b : Int) (k : Nat) : befT l b (k + 1) = befT l b k ++ (if hasN l b k then [(k : Int)] else []) := by
  unfold befT
  rw [List.range_succ, List.filter_append, List.map_append]
  congr 1
  cases h : hasN l b k <;> simp [h]
theorem befT_len (l : List BD) (b : Int) (k : Nat) : (befT l b k).length ≤ k := by
  unfold befT
  rw [List.length_map]
  exact Nat.le_trans (List.length_filter_le _ _) (by simp)
theorem befT_mem {l : List BD} {b : Int} {k : Nat} : ∀ x ∈ befT l b k, 0 ≤ x ∧ x < k := by
  intro x hx
  unfold befT at hx
  obtain ⟨i, hi, rfl⟩ := List.mem_map.1 hx
  have := List.mem_range.1 (List.mem_filter.1 hi).1
  show 0 ≤ (i : Int) ∧ (i : Int) < k
  omega
theorem base_of {l : List BD} {k : Nat} {x : BD} (h : baseB l k x = true) : x.frm = atK l k ∧ atK l k < x.to ∧ x.to ≤ 64 ∧ x.next.length ≤ 2 := by
  unfold baseB at h
  simp at h
  omega
theorem mayL_ge {l : List BD} (h : mayL l = true) : ∀ k, k ≤ l.length → (k : Int) ≤ atK l k := by
  intro k
  induction k with
  | zero => intro _; exact Int.le_refl _
  | succ k ih =>
    intro hk
    have hx : l[k]? = some l[k] := List.getElem?_eq_getElem (by omega)
    have := mayL_at h hx
    unfold mayAt at this
    rw [Bool.and_eq_true] at this
    have hb := base_of this.1
    have := ih (by omega)
    rw [atK_succ hx]
    omega
theorem mayL_few {l : List BD} (h : mayL l = true) : l.length ≤ 64 := by
  rcases Nat.eq_zero_or_pos l.length with h0 | h0
  · omega
  · have hx : l[l.length - 1]? = some (l[l.length - 1]'(by omega)) := List.getElem?_eq_getElem (by omega)
    have h1 := mayL_at h hx
    unfold mayAt at h1
    rw [Bool.and_eq_true] at h1
    have hb := base_of h1.1
    have h2 := mayL_ge h l.length (Nat.le_refl _)
    have h3 := atK_succ hx
    rw [show l.length - 1 + 1 = l.length by omega] at h3
    rw [h3] at h2
    omega
/-- A slice of numbers comes back. -/
def NxP (r : List Int) (w : World) (e : Ending) (w' : World) : Prop := ∃ A c, e = .returned (.slice A r.length c) ∧ NxAt w' w'.heap.size (.slice A r.length c) r ∧ Below w.heap.size w w'
theorem nx_own {w : World} {base n : Nat} {v : Value} {r : List Int} (h : w.ownsRow base 3 1 v n (r.map (Value.int .i64))) (hr : r.length = n) (hi : ∀ x ∈ r, I64 x) (hm : n < 9223372036854775808) : ∃ A c, v = .slice A n c ∧ NxAt w w.heap.size v r := by
  subst hr
  rcases h.2 with ⟨rfl, h0⟩ | ⟨g, cap, cur, rfl, h2, h3, h4, h5⟩
  · have hr : r = [] := by
      have := h.1
      simp at h0
      exact h0
    subst hr
    exact ⟨none, 0, rfl, NxAt.nil⟩
  · exact ⟨_, _, rfl, _, _, rfl, h4, Reads.of_own h, hi, hm⟩
theorem nxp_of {w w' : World} {base n : Nat} {v : Value} {r r' : List Int} (he : r' = r) (h : w'.ownsRow base 3 1 v n (r.map (Value.int .i64))) (hr : r.length = n) (hi : ∀ x ∈ r, I64 x) (hm : n < 9223372036854775808) (hb : Below w.heap.size w w') : NxP r' w (.returned v) w' := by
  subst he hr
  obtain ⟨A, c, rfl, hn⟩ := nx_own h rfl hi hm
  exact ⟨A, c, rfl, hn, hb⟩
theorem bef_i64 {l : List BD} {b : Int} {k : Nat} (hk : k ≤ 64) : ∀ x ∈ befT l b k, I64 x := fun x hx => by
  have := befT_mem x hx
  unfold I64
  omega
structure BfF (A : Option Addr) (n : Nat) (l : List BD) (w W : World) : Prop where
  blks : BksAt W w.heap.size A n l
  below : Below w.heap.size w W
theorem BfF.step {A : Option Addr} {n : Nat} {l : List BD} {w W V : World} (h : BfF A n l w W) (hb : Below W.heap.size W V) : BfF A n l w V :=
  ⟨h.blks.below (hb.mono h.below.size), h.below.trans (hb.mono h.below.size)⟩
theorem BfF.low {A : Option Addr} {n : Nat} {l : List BD} {w W V : World} (h : BfF A n l w W) (hb : Below w.heap.size W V) : BfF A n l w V :=
  ⟨h.blks.below hb, h.below.trans hb⟩
set_option maxRecDepth 100000 in
set_option maxHeartbeats 4000000 in
theorem before_any (A : Option Addr) (n c : Nat) (l : List BD) (b : Int) (w : World) (hh : BksAt w w.heap.size A n l) (hm : n < 9223372036854775808) :
    Calls Try.prog 22 #[.slice A n c, .int .i64 b] w (NxP (befL l b) w) := by
  have HL := hide hh.len
  have HF := hide (⟨hh, Below.refl _ _⟩ : BfF A n l w w)
  have HH := hide hh
  clear hh
  obtain ⟨iT, hiT, hzT, hsT, hbT⟩ := info_parts infT
  have IT := hide (And.intro hiT (And.intro hzT (And.intro hsT hbT)))
  clear hiT hzT hsT hbT
  go_enter Try.func22, Try.ntmps22
  go_wp2_with fail
  refine (bmay_any A n c l _ HH.out hm).mono ?_
  rintro e w1 ⟨rfl, hb⟩
  replace HF := hide (HF.out.step hb)
  clear hb
  cases hmy : mayL l
  · have HO := hide (show befL l b = [] by unfold befL; rw [hmy]; rfl)
    clear hmy
    go_wp2
    go_ret
    rw [HO.out]
    exact ⟨none, 0, rfl, NxAt.nil, HF.out.below⟩
  · have HO := hide (show befL l b = befT l b n by unfold befL; rw [hmy, HL.out]; rfl)
    have hn64 : n ≤ 64 := by rw [← HL.out]; exact mayL_few hmy
    clear hmy
    go_wp2
    go_loopw [4, 11] (fun v i wr => ∃ k : Nat, k ≤ n ∧ i = .int .i64 k ∧ wr.ownsRow w.heap.size 3 1 v (befT l b k).length ((befT l b k).map (Value.int .i64)) ∧ BfF A n l w wr) (fun _ i _ => n - (intOf i).toNat)
    case atStart => exact ⟨0, by omega, rfl, ⟨rfl, .inl ⟨rfl, rfl⟩⟩, HF.out⟩
    case round =>
      obtain ⟨k, hk, rfl, hown, hf⟩ := hrel
      clear HF
      have HF := hide hf
      have HOW := hide hown
      clear hf hown
      by_cases hlt : k < n
      · obtain ⟨ad, x, s, rfl, hab, hx, hxw, hns, hcell⟩ := HF.out.blks.at_ hlt
        have HN := hide (show hasN l b k = decide (b ∈ x.next) by unfold hasN; rw [hx])
        have HSU := hide (befT_succ l b k)
        have hkl := befT_len l b k
        obtain ⟨fr, tt, nx⟩ := x
        dsimp only at HN hns
        obtain ⟨As, cs, rfl⟩ := hns.form
        have HS := hide hns
        have e2 := hcell 2 _ rfl
        obtain ⟨p, hp⟩ : ∃ p, ad.add (k * 3) = p := ⟨_, rfl⟩
        rw [hp] at e2
        simp [Addr.add] at e2
        obtain ⟨q, hq⟩ : ∃ v, (befT l b k).length = v := ⟨_, rfl⟩
        rw [hq] at hkl HOW
        have HQ := hide hq
        have hszw := HF.out.below.size
        clear hcell hxw hx hns hq
        go_wp2_with fail
        refine (contains_any As nx.length cs w.heap.size nx b _ HS.out).mono ?_
        rintro e w5 ⟨rfl, rfl⟩
        cases hc : decide (b ∈ nx)
        · rw [hc] at HN
          have HSV := hide (show befT l b (k + 1) = befT l b k by rw [HSU.out, HN.out]; simp)
          clear hc HSU
          go_wp2
          go_roundw
          case measure => simp [intOf]; omega
          case rel => exact ⟨k + 1, by omega, by go_num, by rw [HSV.out, HQ.out]; exact HOW.out, HF.out⟩
        · rw [hc] at HN
          have HSV := hide (show befT l b (k + 1) = befT l b k ++ [(k : Int)] by rw [HSU.out, HN.out]; simp)
          clear hc HSU
          go_wp2_with (first
            | (refine wpList_push rfl rfl 39 3 (.tmp 22) (.tmp 21) (.tmp 23) rfl rfl w.heap.size 1 8 iT _ (.int .i64 (k : Int)) u4 [.int .i64 (k : Int)] _ q Try.underlying39 IT.out.1 IT.out.2.1 IT.out.2.2.1 IT.out.2.2.2 rfl (by omega) (by omega) (by rfl) rfl rfl one_int HOW.out hszw (by unfold maxLen; omega) (by omega) (by rfl) (by rfl) ?_
               intro v7 w7 g7 G7 O7 B7 P7
               have HO7 := hide O7
               have HF7 := hide (HF.out.low B7)
               clear O7 B7 P7))
          go_roundw
          case measure => simp [intOf]; omega
          case rel =>
            refine ⟨k + 1, by omega, by go_num, ?_, HF7.out⟩
            rw [HSV.out, List.length_append, HQ.out, List.map_append]
            exact HO7.out
      · obtain rfl : k = n := by omega
        obtain ⟨A2, c2, rfl, _⟩ : ∃ A2 c2, u4 = .slice A2 (befT l b k).length c2 ∧ True := by
          obtain ⟨A2, c2, h, _⟩ := nx_own HOW.out rfl (bef_i64 hn64) (by have := befT_len l b k; omega)
          exact ⟨A2, c2, h, trivial⟩
        go_wp2
        go_ret
        exact nxp_of HO.out HOW.out rfl (bef_i64 hn64) (by have := befT_len l b k; omega) HF.out.below
set_option maxRecDepth 100000 in
set_option maxHeartbeats 4000000 in
theorem dbefore_any (A : Option Addr) (n c : Nat) (l : List BD) (b : Int) (w : World) (hh : BksAt w w.heap.size A n l) (hm : n < 9223372036854775808) :
    Calls Try.prog 26 #[.slice A n c, .int .i64 b] w (NxP (befL l b) w) := by
  have HL := hide hh.len
  have HF := hide (⟨hh, Below.refl _ _⟩ : BfF A n l w w)
  have HH := hide hh
  clear hh
  obtain ⟨iT, hiT, hzT, hsT, hbT⟩ := info_parts infT
  have IT := hide (And.intro hiT (And.intro hzT (And.intro hsT hbT)))
  clear hiT hzT hsT hbT
  go_enter Try.func26, Try.ntmps26
  go_wp2_with fail
  refine (dmay_any A n c w.heap.size l _ HH.out hm).mono ?_
  rintro e w1 ⟨rfl, hd⟩
  have hb := dr_below hd w.heap.size
  replace HF := hide (HF.out.low hb)
  clear hb hd
  cases hmy : mayL l
  · have HO := hide (show befL l b = [] by unfold befL; rw [hmy]; rfl)
    clear hmy
    go_wp2
    go_ret
    rw [HO.out]
    exact ⟨none, 0, rfl, NxAt.nil, HF.out.below⟩
  · have HO := hide (show befL l b = befT l b n by unfold befL; rw [hmy, HL.out]; rfl)
    have hn64 : n ≤ 64 := by rw [← HL.out]; exact mayL_few hmy
    clear hmy
    go_wp2
    go_loopw [5, 6] (fun v i wr => ∃ k : Nat, k ≤ n ∧ i = .int .i64 k ∧ wr.ownsRow w.heap.size 3 1 v (befT l b k).length ((befT l b k).map (Value.int .i64)) ∧ BfF A n l w wr) (fun _ i _ => n - (intOf i).toNat)
    case atStart => exact ⟨0, by omega, rfl, ⟨rfl, .inl ⟨rfl, rfl⟩⟩, HF.out⟩
    case round =>
      obtain ⟨k, hk, rfl, hown, hf⟩ := hrel
      clear HF
      have HF := hide hf
      have HOW := hide hown
      clear hf hown
      by_cases hlt : k < n
      · obtain ⟨ad, x, s, rfl, hab, hx, hxw, hns, hcell⟩ := HF.out.blks.at_ hlt
        have HN := hide (show hasN l b k = decide (b ∈ x.next) by unfold hasN; rw [hx])
        have HSU := hide (befT_succ l b k)
        have hkl := befT_len l b k
        obtain ⟨fr, tt, nx⟩ := x
        dsimp only at HN hns
        obtain ⟨As, cs, rfl⟩ := hns.form
        have e2 := hcell 2 _ rfl
        obtain ⟨p, hp⟩ : ∃ p, ad.add (k * 3) = p := ⟨_, rfl⟩
        rw [hp] at e2
        simp [Addr.add] at e2
        obtain ⟨q, hq⟩ : ∃ v, (befT l b k).length = v := ⟨_, rfl⟩
        rw [hq] at hkl HOW
        have HQ := hide hq
        have hszw := HF.out.below.size
        obtain ⟨m, hm2⟩ : ∃ v, nx.length = v := ⟨_, rfl⟩
        rw [hm2] at hns e2
        have HM := hide hm2
        have HS := hide hns
        have hml : m < 9223372036854775808 := hns.len.2.2
        clear hcell hxw hx hns hq hm2
        go_wp2_with fail
        obtain ⟨uo, rfl⟩ : ∃ v : Value, v = u5 := ⟨_, rfl⟩
        go_loop [5, 7] (fun v i => ∃ j : Nat, j ≤ m ∧ i = .int .i64 j ∧ v = uo ∧ Hid (∀ t y, t < j → nx[t]? = some y → y ≠ b)) (fun _ i => m - (intOf i).toNat)
        case atStart => exact ⟨0, by omega, rfl, rfl, fun t y h => by omega⟩
        case round =>
          obtain ⟨j, hj, rfl, rfl, HJ⟩ := hrel
          by_cases hlj : j < m
          · obtain ⟨ad3, y, rfl, _, hy, hyi, hcy⟩ := HS.out.at_ hlj
            have HY := hide hy
            clear hy hyi
            cases hq : (y == b)
            · have HYB := hide (show y ≠ b by simpa using hq)
              go_wp2
              go_round
              case measure => simp [intOf]; omega
              case rel =>
                refine ⟨j + 1, by omega, by go_num, rfl, fun t z ht hz => ?_⟩
                rcases Nat.lt_or_ge t j with h | h
                · exact HJ.out t z h hz
                · obtain rfl : t = j := by omega
                  rw [HY.out] at hz
                  exact Option.some.inj hz ▸ HYB.out
            · have HYB := hide (show b ∈ nx by
                have : y = b := by simpa using hq
                rw [← this]
                exact List.mem_of_getElem? HY.out)
              go_wp2_with (first
                | (refine wpList_push rfl rfl 39 3 (.tmp 38) (.tmp 37) (.tmp 39) rfl rfl w.heap.size 1 8 iT _ (.int .i64 (k : Int)) u5 [.int .i64 (k : Int)] _ q Try.underlying39 IT.out.1 IT.out.2.1 IT.out.2.2.1 IT.out.2.2.2 rfl (by omega) (by omega) (by rfl) rfl rfl one_int HOW.out hszw (by unfold maxLen; omega) (by omega) (by rfl) (by rfl) ?_
                   intro v7 w7 g7 G7 O7 B7 P7
                   have HO7 := hide O7
                   have HF7 := hide (HF.out.low B7)
                   clear O7 B7 P7))
              go_roundw
              case measure => simp [intOf]; omega
              case rel =>
                refine ⟨k + 1, by omega, by go_num, ?_, HF7.out⟩
                rw [show befT l b (k + 1) = befT l b k ++ [(k : Int)] by rw [HSU.out, HN.out]; simp [HYB.out], List.length_append, HQ.out, List.map_append]
                exact HO7.out
          · obtain rfl : j = m := by omega
            have HNO := hide (show b ∉ nx from fun h => by
              obtain ⟨t, ht, e⟩ := List.getElem_of_mem h
              exact HJ.out t _ (by have := HM.out; omega) (List.getElem?_eq_getElem ht) e)
            clear HJ
            go_wp2
            go_roundw
            case measure => simp [intOf]; omega
            case rel => exact ⟨k + 1, by omega, by go_num, by rw [show befT l b (k + 1) = befT l b k by rw [HSU.out, HN.out]; simp [HNO.out], HQ.out]; exact HOW.out, HF.out⟩
      · obtain rfl : k = n := by omega
        obtain ⟨A2, c2, rfl, _⟩ : ∃ A2 c2, u5 = .slice A2 (befT l b k).length c2 ∧ True := by
          obtain ⟨A2, c2, h, _⟩ := nx_own HOW.out rfl (bef_i64 hn64) (by have := befT_len l b k; omega)
          exact ⟨A2, c2, h, trivial⟩
        go_wp2
        go_ret
        exact nxp_of HO.out HOW.out rfl (bef_i64 hn64) (by have := befT_len l b k; omega) HF.out.below
def greatL (l : List BD) : Bool := (l.take 101).any (fun x => decide (40 < x.next.length)) || decide (100 < l.length)
set_option maxRecDepth 100000 in
set_option maxHeartbeats 2000000 in
theorem great_any (A : Option Addr) (n c B : Nat) (l : List BD) (w : World) (hh : BksAt w B A n l) (hm : n < 9223372036854775808) :
    Calls Try.prog 20 #[.slice A n c] w fun e w' => e = .returned (.bool (greatL l)) ∧ w = w' := by
  have HH := hide hh
  have HL := hide hh.len
  clear hh
  go_enter Try.func20, Try.ntmps20
  go_wp2
  go_loop [3] (fun v => ∃ k : Nat, k ≤ n ∧ k ≤ 101 ∧ v = .int .i64 k ∧ Hid ((l.take k).any (fun x => decide (40 < x.next.length)) = false)) (fun v => n - (intOf v).toNat)
  case atStart => exact ⟨0, by omega, by omega, rfl, by simp [hide]⟩
  case round =>
    obtain ⟨k, hk, hk2, rfl, HT⟩ := hrel
    by_cases hlt : k < n
    · by_cases h100 : k ≤ 100
      · have hd : decide ((k : Int) ≤ 100) = true := by simp; omega
        obtain ⟨ad, x, s, rfl, hab, hx, hxw, hns, hcell⟩ := HH.out.at_ hlt
        obtain ⟨fr, tt, nx⟩ := x
        dsimp only at hns
        obtain ⟨As, cs, rfl⟩ := hns.form
        have e2 := hcell 2 _ rfl
        obtain ⟨p, hp⟩ : ∃ p, ad.add (k * 3) = p := ⟨_, rfl⟩
        rw [hp] at e2
        simp [Addr.add] at e2
        obtain ⟨m, hm2⟩ : ∃ v, nx.length = v := ⟨_, rfl⟩
        rw [hm2] at hns e2
        have HX := hide (show (l.take (k + 1)).any (fun x => decide (40 < x.next.length)) = ((l.take k).any (fun x => decide (40 < x.next.length)) || decide (40 < m)) by
          rw [List.take_add_one, hx, Option.toList_some, List.any_append, ← hm2]
          simp)
        have HX2 := hide hx
        have hml : m < 9223372036854775808 := hns.len.2.2
        have HM := hide hm2
        clear hcell hxw hx hns hm2
        cases h40 : decide ((40 : Int) < (m : Int))
        · have HN := hide (show (l.take (k + 1)).any (fun x => decide (40 < x.next.length)) = false by rw [HX.out, HT.out]; simp at h40; simp; omega)
          go_wp2
          go_round
          case measure => simp [intOf]; omega
          case rel => exact ⟨k + 1, by omega, by omega, by go_num, HN.out⟩
        · have HN := hide (show greatL l = true by
            unfold greatL
            rw [Bool.or_eq_true]
            left
            rw [List.any_eq_true]
            refine ⟨_, List.mem_of_getElem? (i := k) (by rw [List.getElem?_take, if_pos (by omega)]; exact HX2.out), ?_⟩
            dsimp only
            rw [HM.out]
            simp at h40
            simp
            omega)
          go_wp2
          go_ret
          exact ⟨ret_bb HN.out.symm, rfl⟩
      · have hd : decide ((k : Int) ≤ 100) = false := by simp; omega
        have hd2 : decide ((100 : Int) < (n : Int)) = true := by simp; omega
        have HN := hide (show greatL l = true by unfold greatL; rw [HL.out, Bool.or_eq_true]; right; simp; omega)
        go_wp2
        go_ret
        exact ⟨ret_bb HN.out.symm, rfl⟩
    · obtain rfl : k = n := by omega
      cases h1 : decide ((100 : Int) < (k : Int))
      · have HN := hide (show greatL l = false by
          unfold greatL
          have := HT.out
          rw [List.take_of_length_le (by rw [HL.out]; exact Nat.le_refl _)] at this
          rw [List.take_of_length_le (by rw [HL.out]; exact hk2), this, HL.out]
          simp at h1
          simp
          omega)
        go_wp2
        go_ret
        exact ⟨ret_bb HN.out.symm, rfl⟩
      · have HN := hide (show greatL l = true by unfold greatL; rw [HL.out, Bool.or_eq_true]; right; simp at h1; simp; omega)
        go_wp2
        go_ret
        exact ⟨ret_bb HN.out.symm, rfl⟩
end Go.Proofs.Ytbdofidapddgaaa
