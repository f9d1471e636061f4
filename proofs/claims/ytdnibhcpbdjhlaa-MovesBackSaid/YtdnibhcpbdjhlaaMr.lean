/-
  moves.May, ready: whether moves may be, which one is ready. Conditions: those written in each statement.
-/
import Derived.Test.YtdnibhcpbdjhlaaMq
namespace Go.Proofs.Ytdnibhcpbdjhlaa
open Go.RowKit
set_option linter.unusedVariables false
set_option linter.unusedSimpArgs false
def MyRel (l : List Mv) (s : Int) (w : World) (A : Option Addr) (n : Nat) (i : Value) (wr : World) : Prop :=
  ∃ k : Nat, k ≤ n ∧ i = .int .i64 k ∧ (∀ j x, j < k → l[j]? = some x → x.1 ≠ s ∧ x.2 ≠ s) ∧ MvsAt wr w.heap.size A n l ∧ Below w.heap.size w wr
theorem may_bad {l : List Mv} {s : Int} {x : Mv} (hx : x ∈ l) (h : x.1 = s ∨ x.2 = s) : mayM l s = false := by
  unfold mayM
  rw [Bool.and_eq_false_iff]
  left
  rw [Bool.eq_false_iff]
  intro ht
  have := List.all_eq_true.1 ht x hx
  simp at this
  rcases h with h | h
  · exact this.1 h
  · exact this.2 h
theorem may_good {l : List Mv} {s : Int} (h : ∀ x ∈ l, x.1 ≠ s ∧ x.2 ≠ s) : mayM l s = (regB s && namedB l) := by
  unfold mayM
  rw [List.all_eq_true.2 (fun x hx => by simp [h x hx])]
  rfl
theorem may_iff {l : List Mv} {s : Int} : mayM l s = true ↔ (∀ x ∈ l, x.1 ≠ s ∧ x.2 ≠ s) ∧ regB s = true ∧ namedB l = true := by
  unfold mayM
  simp [List.all_eq_true]
set_option maxRecDepth 100000 in
set_option maxHeartbeats 2000000 in
theorem may_any (A : Option Addr) (n c : Nat) (l : List Mv) (s : Int) (w : World) (hh : MvsAt w w.heap.size A n l) (hm : n < 9223372036854775807) :
    Calls Try.prog 13 #[.slice A n c, .int .i8 s] w (NmP (mayM l s) w) := by
  have HL := hide hh.1
  have HH := hide hh
  clear hh
  go_enter Try.func13, Try.ntmps13
  go_wp2
  go_loopw [9] (fun i wr => MyRel l s w A n i wr) (fun i _ => n - (intOf i).toNat)
  case atStart => exact ⟨0, by omega, rfl, by omega, HH.out, Below.refl _ _⟩
  case round =>
    obtain ⟨k, hk, rfl, hno, hat, hbel⟩ := hrel
    have HN := hide hno
    have HAT := hide hat
    have HB := hide hbel
    clear hno hat hbel
    by_cases hlt : k < n
    · obtain ⟨ad, x, rfl, hab, hx, hxw, hcell⟩ := HAT.out.at_ hlt
      have HX := hide hx
      have HC := hide hcell
      have hszw := HB.out.size
      clear hx hcell hxw
      obtain ⟨x0, x1⟩ := x
      cases b0 : (x0 == s)
      · cases b1 : (x1 == s)
        · have hg : x0 ≠ s ∧ x1 ≠ s := by simpa using And.intro b0 b1
          have HG := hide hg
          clear hg
          go_wp2_with (refine wpList_load_at rfl 32 (.tmp 11) rfl (ad.add (k * 2)) rfl [.int .i8 x0, .int .i8 x1] _ HC.out Try.underlying32 rfl (by kernel_rfl) ?_)
          go_roundw
          case measure => simp [intOf]; omega
          case rel =>
            refine ⟨k + 1, by omega, by go_num, fun j y hj hy => ?_, HAT.out.alloc hszw _, HB.out.alloc hszw _⟩
            rcases Nat.lt_or_ge j k with h | h
            · exact HN.out j y h hy
            · obtain rfl : j = k := by omega
              have := HX.out
              rw [hy] at this
              obtain rfl := Option.some.inj this
              exact HG.out
        · have hbad := hide (may_bad (s := s) (List.mem_of_getElem? HX.out) (.inr (by simpa using b1)))
          go_wp2_with (refine wpList_load_at rfl 32 (.tmp 11) rfl (ad.add (k * 2)) rfl [.int .i8 x0, .int .i8 x1] _ HC.out Try.underlying32 rfl (by kernel_rfl) ?_)
          go_ret
          exact ⟨ret_b hbad.out.symm, HB.out.alloc hszw _⟩
      · have hbad := hide (may_bad (s := s) (List.mem_of_getElem? HX.out) (.inl (by simpa using b0)))
        go_wp2_with (refine wpList_load_at rfl 32 (.tmp 11) rfl (ad.add (k * 2)) rfl [.int .i8 x0, .int .i8 x1] _ HC.out Try.underlying32 rfl (by kernel_rfl) ?_)
        go_ret
        exact ⟨ret_b hbad.out.symm, HB.out.alloc hszw _⟩
    · obtain rfl : k = n := by omega
      have hg := hide (may_good (s := s) (l := l) (fun x hx => by
        obtain ⟨j, hj, rfl⟩ := List.getElem_of_mem hx
        exact HN.out j _ (by have := HL.out; omega) (List.getElem?_eq_getElem hj)))
      clear hk hlt
      cases hr : regB s
      · go_wp2_with fail
        refine (register_any s _).mono ?_
        rintro e w' ⟨rfl, rfl⟩
        rw [hr]
        go_wp2
        go_ret
        exact ⟨ret_b (by rw [hg.out, hr]; rfl), HB.out⟩
      · go_wp2_with fail
        refine (register_any s _).mono ?_
        rintro e w' ⟨rfl, rfl⟩
        rw [hr]
        go_wp2_with fail
        refine (named_any A k c l _ ⟨HAT.out.1, HAT.out.2.1, HAT.out.2.2.more HB.out.size⟩ hm).mono ?_
        rintro e w2 ⟨rfl, hb⟩
        have HB2 := hide (HB.out.trans (hb.mono HB.out.size))
        clear hb
        go_wp2
        go_ret
        exact ⟨ret_b (by rw [hg.out, hr]; rfl), HB2.out⟩
/-! ### ready -/
theorem free_count {l : List Mv} {k : Nat} {x : Mv} (hx : l[k]? = some x) : FreeAt l k ↔ (l.map (·.2)).count x.1 = if x.1 = x.2 then 1 else 0 := by
  obtain ⟨hl, he⟩ := List.getElem?_eq_some_iff.1 hx
  have hsp : l = l.take k ++ x :: l.drop (k + 1) := by rw [← he, ← List.drop_eq_getElem_cons hl, List.take_append_drop]
  have hc : (l.map (·.2)).count x.1 = ((l.take k).map (·.2)).count x.1 + ((if x.1 = x.2 then 1 else 0) + ((l.drop (k + 1)).map (·.2)).count x.1) := by
    conv => lhs; rw [hsp]
    rw [List.map_append, List.map_cons, List.count_append, List.count_cons]
    have : (x.2 == x.1) = decide (x.1 = x.2) := by rw [Bool.eq_iff_iff, beq_iff_eq, decide_eq_true_eq]; exact eq_comm
    rw [this]
    simp only [decide_eq_true_eq]
    omega
  rw [hc]
  have hz : ∀ L : List Mv, ((L.map (·.2)).count x.1 = 0 ↔ ∀ y ∈ L, y.2 ≠ x.1) := by
    intro L
    rw [List.count_eq_zero]
    constructor
    · intro h y hy e
      exact h (List.mem_map.2 ⟨y, hy, e⟩)
    · intro h hm
      obtain ⟨y, hy, e⟩ := List.mem_map.1 hm
      exact h y hy e
  have : (((l.take k).map (·.2)).count x.1 + ((if x.1 = x.2 then 1 else 0) + ((l.drop (k + 1)).map (·.2)).count x.1) = if x.1 = x.2 then 1 else 0) ↔ (((l.take k).map (·.2)).count x.1 = 0 ∧ ((l.drop (k + 1)).map (·.2)).count x.1 = 0) := by
    split <;> omega
  rw [this, hz, hz]
  constructor
  · rintro ⟨x', hx', hf⟩
    rw [hx] at hx'
    obtain rfl := Option.some.inj hx'
    constructor
    · intro y hy
      obtain ⟨j, hj, rfl⟩ := List.getElem_of_mem hy
      rw [List.length_take] at hj
      exact hf j _ (by omega) (by rw [List.getElem_take]; exact List.getElem?_eq_getElem _)
    · intro y hy
      obtain ⟨j, hj, rfl⟩ := List.getElem_of_mem hy
      rw [List.length_drop] at hj
      exact hf (k + 1 + j) _ (by omega) (by rw [List.getElem_drop]; exact List.getElem?_eq_getElem _)
  · rintro ⟨h1, h2⟩
    refine ⟨x, hx, fun j y hj hy => ?_⟩
    have hjl := (List.getElem?_eq_some_iff.1 hy).1
    rcases Nat.lt_or_ge j k with h | h
    · refine h1 y (List.mem_of_getElem? (i := j) ?_)
      rw [List.getElem?_take, if_pos h, hy]
    · refine h2 y (List.mem_of_getElem? (i := j - (k + 1)) ?_)
      rw [List.getElem?_drop, show k + 1 + (j - (k + 1)) = j by omega, hy]
def rdyI (l : List Mv) : Int := match freeP l with | some k => (k : Int) | none => 0
def rdyB (l : List Mv) : Bool := (freeP l).isSome
def RdyP (l : List Mv) (w : World) (e : Ending) (w' : World) : Prop := e = .returned (.tuple #[.int .i64 (rdyI l), .bool (rdyB l)]) ∧ Below w.heap.size w w'
def RaRel (l : List Mv) (w : World) (A : Option Addr) (n b : Nat) (i : Value) (wr : World) : Prop :=
  ∃ k : Nat, k ≤ n ∧ i = .int .i64 k ∧ MapIs Try.prog 23 (Value.int .i8) I8 wr b k (cntF ((l.take k).map (·.2))) ∧ MvsAt wr w.heap.size A n l ∧ Below w.heap.size w wr ∧ w.heap.size ≤ b
def RbRel (l : List Mv) (w : World) (A : Option Addr) (n b : Nat) (i : Value) (wr : World) : Prop :=
  ∃ k : Nat, k ≤ n ∧ i = .int .i64 k ∧ (∀ j, j < k → ¬ FreeAt l j) ∧ MapIs Try.prog 23 (Value.int .i8) I8 wr b n (cntF (l.map (·.2))) ∧ MvsAt wr w.heap.size A n l ∧ Below w.heap.size w wr ∧ w.heap.size ≤ b
set_option maxRecDepth 100000 in
set_option maxHeartbeats 4000000 in
theorem ready_any (A : Option Addr) (n c : Nat) (l : List Mv) (w : World) (hh : MvsAt w w.heap.size A n l) (hm : n < 9223372036854775807) :
    Calls Try.prog 18 #[.slice A n c] w (RdyP l w) := by
  have HL := hide hh.1
  have HH := hide hh
  clear hh
  go_enter Try.func18, Try.ntmps18
  go_wp2_with (first
    | (refine wpList_makeMap (Value.int .i8) I8 23 rfl 42 rfl ?_
       intro w2 b2 G2 M2 L2
       have HM2 := hide M2
       have HL2 := hide L2
       clear M2 L2)
    | fail)
  go_loopw [13] (fun i wr => RaRel l w A n b2 i wr) (fun i _ => n - (intOf i).toNat)
  case atStart => exact ⟨0, by omega, rfl, HM2.out.congr (by intro q; simp [cntF]), HH.out.below HL2.out, HL2.out, G2⟩
  case round =>
    obtain ⟨k, hk, rfl, hmap, hat, hbel, hb2⟩ := hrel
    have HM := hide hmap
    have HAT := hide hat
    have HB := hide hbel
    clear hmap hat hbel
    by_cases hlt : k < n
    · obtain ⟨ad, x, rfl, hab, hx, hxw, hcell⟩ := HAT.out.at_ hlt
      have HX := hide hx
      have HC := hide hcell
      have HW := hide hxw
      obtain ⟨cn, hcn⟩ : ∃ v, ((l.take k).map (·.2)).count x.2 = v := ⟨_, rfl⟩
      have hcb : cn ≤ k := by rw [← hcn]; exact Nat.le_trans List.count_le_length (by simp; omega)
      have HCN := hide hcn
      clear hx hcell hxw hcn
      obtain ⟨x0, x1⟩ := x
      have HLK := hide (show (cntF ((l.take k).map (·.2)) x1).getD (.int .i64 0) = .int .i64 (cn : Int) by rw [cnt_look, HCN.out])
      have hltb := HM.out.lt
      have hszw := HB.out.size
      go_upto_region 5 with (refine wpList_load_at rfl 32 (.tmp 15) rfl (ad.add (k * 2)) rfl [.int .i8 x0, .int .i8 x1] _ HC.out Try.underlying32 rfl (by kernel_rfl) ?_)
      have X3 := Blk.new wr 32 #[.int .i8 x0, .int .i8 x1]
      have L3 : Below wr.heap.size wr (wr.alloc (.cells #[.int .i8 x0, .int .i8 x1] 32)) := (Below.refl _ _).alloc (Nat.le_refl _) _
      generalize wr.alloc (.cells #[.int .i8 x0, .int .i8 x1] 32) = w3 at X3 L3 ⊢
      have c31 : w3.cell? ⟨wr.heap.size, 1, none⟩ = some (.int .i8 x1) := X3.cell 1
      have HM3 := hide (HM.out.below L3 hltb)
      have HAT3 := hide (HAT.out.below (L3.mono hszw))
      have HB3 := hide (HB.out.trans (L3.mono hszw))
      have hsz3 := L3.size
      clear X3 L3
      go_wp2_with (first
        | (at_lookup
           refine wpList_look1 rfl (.tmp 17) (.tmp 19) 42 rfl 3 i8K Try.underlying42 (.int .i64 0) (zeroI _) HM3.out x1 HW.out.2 (by rfl) (by rfl) _ HLK.out ?_)
        | (at_mapUpdate
           refine wpList_put rfl (.tmp 17) (.tmp 19) (.tmp 21) 42 rfl 3 i8K Try.underlying42 HM3.out (by unfold maxLen; omega) x1 HW.out.2 (.int .i64 ((cn : Int) + 1)) (by rfl) (by rfl) (by rfl) ?_
           intro w4 M4 L4
           have HM4 := hide M4
           have HAT4 := hide (HAT3.out.grown L4 (by omega) (fun g e => by injection e with e; omega))
           have HB4 := hide (kept_map HB3.out L4 (by omega) hb2)
           clear M4 L4 c31))
      go_roundw
      case measure => simp [intOf]; omega
      case rel =>
        refine ⟨k + 1, by omega, by go_num, HM4.out.congr ?_, HAT4.out, HB4.out, hb2⟩
        intro y
        rw [List.take_add_one, HX.out, Option.toList_some, List.map_append]
        exact cnt_put _ _ _ (by rw [HCN.out]) y
    · obtain rfl : k = n := by omega
      have HMall := hide (HM.out.congr (g := cntF (l.map (·.2))) (by intro q; rw [List.take_of_length_le (by have := HL.out; omega)]))
      clear hk hlt HM
      go_wp2
      obtain ⟨wo, rfl⟩ : ∃ wo : World, wo = wr := ⟨_, rfl⟩
      go_loopw [25] (fun i wq => RbRel l w A k b2 i wq) (fun i _ => k - (intOf i).toNat)
      case atStart => exact ⟨0, by omega, rfl, by omega, HMall.out, HAT.out, HB.out, hb2⟩
      case round =>
        obtain ⟨j, hj, rfl, hno, hmap, hat, hbel, _⟩ := hrel
        have HN := hide hno
        have HMq := hide hmap
        have HATq := hide hat
        have HBq := hide hbel
        clear hno hmap hat hbel HAT HB HMall
        by_cases hlt : j < k
        · obtain ⟨ad, x, rfl, hab, hx, hxw, hcell⟩ := HATq.out.at_ hlt
          have HX := hide hx
          have HC := hide hcell
          have HW := hide hxw
          have hfc := free_count hx
          obtain ⟨cn, hcn⟩ : ∃ v, (l.map (·.2)).count x.1 = v := ⟨_, rfl⟩
          have hcb : cn ≤ k := by rw [← hcn]; exact Nat.le_trans List.count_le_length (by have := HL.out; simp; omega)
          rw [hcn] at hfc
          have HCN := hide hcn
          have HFC := hide hfc
          clear hx hcell hxw hcn hfc
          obtain ⟨x0, x1⟩ := x
          dsimp only at HFC HCN
          have HLK := hide (show (cntF (l.map (·.2)) x0).getD (.int .i64 0) = .int .i64 (cn : Int) by rw [cnt_look, HCN.out])
          have hltb := HMq.out.lt
          have hszw := HBq.out.size
          have hcs : (∃ o : Int, (x0 = x1 ∧ o = 1 ∨ x0 ≠ x1 ∧ o = 0)) := by by_cases h : x0 = x1; exact ⟨1, .inl ⟨h, rfl⟩⟩; exact ⟨0, .inr ⟨h, rfl⟩⟩
          obtain ⟨o, ho⟩ := hcs
          have HO := hide (show FreeAt l j ↔ (cn : Int) = o by
            rw [HFC.out]
            rcases ho with ⟨h, rfl⟩ | ⟨h, rfl⟩
            · rw [if_pos h]; omega
            · rw [if_neg h]; omega)
          cases hfr : ((cn : Int) == o) <;> rcases ho with ⟨he, rfl⟩ | ⟨he, rfl⟩
          all_goals
            first
              | (have b0 : (x0 == x1) = true := by simp [he])
              | (have b0 : (x0 == x1) = false := by simp [he])
            clear he
            go_upto_region 13 with (refine wpList_load_at rfl 32 (.tmp 28) rfl (ad.add (j * 2)) rfl [.int .i8 x0, .int .i8 x1] _ HC.out Try.underlying32 rfl (by kernel_rfl) ?_)
            have X3 := Blk.new wr 32 #[.int .i8 x0, .int .i8 x1]
            have L3 : Below wr.heap.size wr (wr.alloc (.cells #[.int .i8 x0, .int .i8 x1] 32)) := (Below.refl _ _).alloc (Nat.le_refl _) _
            generalize wr.alloc (.cells #[.int .i8 x0, .int .i8 x1] 32) = w3 at X3 L3 ⊢
            have c30 : w3.cell? ⟨wr.heap.size, 0, none⟩ = some (.int .i8 x0) := X3.cell 0
            have HM3 := hide (HMq.out.below L3 hltb)
            have HAT3 := hide (HATq.out.below (L3.mono hszw))
            have HB3 := hide (HBq.out.trans (L3.mono hszw))
            clear X3 L3
            go_wp2_with (first
              | (at_lookup
                 refine wpList_look1 rfl (.tmp 35) (.tmp 37) 42 rfl 3 i8K Try.underlying42 (.int .i64 0) (zeroI _) HM3.out x0 HW.out.1 (by rfl) (by rfl) _ HLK.out ?_))
          all_goals first
            | (go_ret2
               have hfa : FreeAt l j := HO.out.2 (by simpa using hfr)
               have hp := freeP_some hfa HN.out
               refine ⟨?_, HB3.out⟩
               unfold rdyI rdyB
               rw [hp]
               rfl)
            | (have hfa : ¬ FreeAt l j := fun h => by
                 have := HO.out.1 h
                 simp [this] at hfr
               have HFA := hide hfa
               clear hfa
               go_roundw
               case measure => simp [intOf]; omega
               case rel =>
                 refine ⟨j + 1, by omega, by go_num, fun q hq => ?_, HM3.out, HAT3.out, HB3.out, hb2⟩
                 rcases Nat.lt_or_ge q j with h | h
                 · exact HN.out q h
                 · rw [show q = j by omega]; exact HFA.out)
        · obtain rfl : j = k := by omega
          have hf := freeP_none (l := l) (fun q hq => HN.out q (by have := HL.out; omega))
          have HF := hide hf
          clear hj hlt hf
          go_wp2
          go_ret2
          refine ⟨?_, HBq.out⟩
          unfold rdyI rdyB
          rw [HF.out]
          rfl
end Go.Proofs.Ytdnibhcpbdjhlaa
