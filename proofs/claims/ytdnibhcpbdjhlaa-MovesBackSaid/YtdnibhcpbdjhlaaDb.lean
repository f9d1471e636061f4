/-
  The document's Circles. Conditions: those written in each statement.
-/
import Derived.Test.YtdnibhcpbdjhlaaDa
import Derived.Test.YtdnibhcpbdjhlaaMc
namespace Go.Proofs.Ytdnibhcpbdjhlaa
open Go.RowKit
set_option linter.unusedVariables false
set_option linter.unusedSimpArgs false
def stp (l : List Mv) (r : Int) (i : Nat) : Int := (itr l (i + 1) r).getD (-1)
theorem itr_one (l : List Mv) (r : Int) : itr l 1 r = lk l r := rfl
theorem itr_next {l : List Mv} {n : Nat} {r y : Int} (h : itr l n r = some y) : itr l (n + 1) r = lk l y := by rw [itr, h]; rfl
def IsL (l : List Mv) (r : Int) : Prop := Lst l r ∧ lk l r ≠ some r
structure IW (l : List Mv) (r : Int) (i : Nat) (b : Bool) : Prop where
  all : ∀ j, 1 ≤ j → j ≤ i → ∃ y, itr l j r = some y ∧ y ≠ r
  lst : b = true ↔ ∀ j y, 1 ≤ j → j ≤ i → itr l j r = some y → r < y
theorem IW.start (l : List Mv) (r : Int) : IW l r 0 true := ⟨fun j h1 h2 => by omega, ⟨fun _ j y h1 h2 => by omega, fun _ => rfl⟩⟩
theorem IW.next {l : List Mv} {r : Int} {i : Nat} {b b' : Bool} (h : IW l r i b) {y : Int} (hy : itr l (i + 1) r = some y) (hr : y ≠ r) (hb : b' = true ↔ b = true ∧ r < y) : IW l r (i + 1) b' := by
  refine ⟨fun j h1 h2 => ?_, hb.trans ⟨fun ⟨a, c⟩ j z h1 h2 hz => ?_, fun q => ⟨h.lst.2 fun j z h1 h2 hz => q j z h1 (by omega) hz, q (i + 1) y (by omega) (by omega) hy⟩⟩⟩
  · by_cases e : j = i + 1
    · subst e; exact ⟨y, hy, hr⟩
    · exact h.all j h1 (by omega)
  · by_cases e : j = i + 1
    · subst e
      rw [hy] at hz
      injection hz with hz
      omega
    · exact h.lst.1 a j z h1 (by omega) hz
theorem IW.yes {l : List Mv} {r : Int} {i : Nat} {b : Bool} (h : IW l r i b) (hy : itr l (i + 1) r = some r) : Lst l r ↔ b = true := by
  rw [h.lst]
  constructor
  · intro hl j y h1 h2 e
    obtain ⟨z, hz, hne⟩ := h.all j h1 h2
    rw [e] at hz
    injection hz with hz
    have := hl.2 j y e
    omega
  · intro hb
    refine ⟨⟨i + 1, by omega, hy⟩, fun n q hq => ?_⟩
    have hm := Nat.div_add_mod n (i + 1)
    rw [← hm, itr_add, itr_mul hy] at hq
    change itr l (n % (i + 1)) r = some q at hq
    have hlt := Nat.mod_lt n (show 0 < i + 1 by omega)
    by_cases h0 : n % (i + 1) = 0
    · rw [h0] at hq
      injection hq with hq
      omega
    · have := hb _ q (by omega) (by omega) hq
      omega
theorem no_none {l : List Mv} {r : Int} {i : Nat} (h : itr l i r = none) : ¬ OnC l r := fun ho => by
  obtain ⟨q, _, hq, _⟩ := onc_back ho i
  rw [h] at hq
  cases hq
theorem IW.long {l : List Mv} {r y : Int} {b : Bool} (h : IW l r 16 b) (hl : l.length ≤ 16) (hy : itr l 17 r = some y) (hr : y ≠ r) : ¬ OnC l r := by
  have hdef : ∀ j, j ≤ 17 → ∃ z, itr l j r = some z := by
    intro j hj
    by_cases h0 : j = 0
    · subst h0; exact ⟨r, rfl⟩
    · by_cases h17 : j = 17
      · subst h17; exact ⟨y, hy⟩
      · obtain ⟨z, hz, _⟩ := h.all j (by omega) (by omega)
        exact ⟨z, hz⟩
  have hrep : ∃ a c, a < c ∧ c ≤ 16 ∧ itr l a r = itr l c r := by
    refine Classical.byContradiction fun hno => ?_
    have hnd : ((List.range 17).map fun n => (itr l n r).getD 0).Nodup := by
      unfold List.Nodup
      rw [List.pairwise_map]
      have hp : (List.range 17).Pairwise fun a c => a < c ∧ c < 17 := by
        refine List.Pairwise.imp_of_mem ?_ (List.pairwise_lt_range (n := 17))
        intro a c _ hc hac
        exact ⟨hac, List.mem_range.1 hc⟩
      refine List.Pairwise.imp ?_ hp
      intro a c ⟨hac, hc⟩ e
      obtain ⟨p, hp⟩ := hdef a (by omega)
      obtain ⟨q, hq⟩ := hdef c (by omega)
      refine hno ⟨a, c, hac, by omega, ?_⟩
      rw [hp, hq] at e ⊢
      have : p = q := by simpa using e
      rw [this]
    have := pig_le hnd (F := l.map (·.1)) fun z hz => by
      obtain ⟨j, hj, rfl⟩ := List.mem_map.1 hz
      have hj17 := List.mem_range.1 hj
      obtain ⟨p, hp⟩ := hdef j (by omega)
      obtain ⟨q, hq⟩ := hdef (j + 1) (by omega)
      rw [itr_next hp] at hq
      rw [hp]
      exact List.mem_map.2 ⟨_, lk_mem hq, rfl⟩
    simp at this
    omega
  obtain ⟨a, c, hac, hc, he⟩ := hrep
  have key : ∀ p, 0 < p → itr l p r ≠ some r := by
    intro p
    induction p using Nat.strongRecOn with
    | _ p ih =>
      intro hp e
      by_cases h16 : p ≤ 16
      · obtain ⟨z, hz, hne⟩ := h.all p hp h16
        rw [e] at hz
        injection hz with hz
        exact hne hz.symm
      · by_cases h17 : p = 17
        · subst h17
          rw [e] at hy
          injection hy with hy
          exact hr hy.symm
        · refine ih (a + (p - c)) (by omega) (by omega) ?_
          rw [itr_add, he, ← itr_add, show c + (p - c) = p by omega]
          exact e
  rintro ⟨n, hn, e⟩
  exact key n hn e
def CntP (l : List Mv) (k c : Nat) : Prop := ∃ L : List Int, L.Nodup ∧ (∀ x, x ∈ L ↔ IsL l x ∧ x < k) ∧ L.length = c
theorem isl_reg {l : List Mv} (hg : ∀ x ∈ l, regB x.1 = true ∧ regB x.2 = true) {r : Int} (h : IsL l r) : 0 ≤ r ∧ r < 16 := by
  obtain ⟨y, _, hy, _⟩ := onc_back h.1.1 1
  rw [itr_one] at hy
  exact regB_iff.1 (hg _ (lk_mem hy)).1
theorem CntP.start {l : List Mv} (hg : ∀ x ∈ l, regB x.1 = true ∧ regB x.2 = true) : CntP l 0 0 := ⟨[], List.nodup_nil, fun x => ⟨fun h => by simp at h, fun ⟨h, h2⟩ => by have := isl_reg hg h; omega⟩, rfl⟩
theorem CntP.no {l : List Mv} {k c : Nat} (h : CntP l k c) (hn : ¬ IsL l k) : CntP l (k + 1) c := by
  obtain ⟨L, h1, h2, h3⟩ := h
  refine ⟨L, h1, fun x => (h2 x).trans ⟨fun ⟨a, b⟩ => ⟨a, by omega⟩, fun ⟨a, b⟩ => ⟨a, ?_⟩⟩, h3⟩
  by_cases e : x = k
  · subst e; exact absurd a hn
  · omega
theorem CntP.yes {l : List Mv} {k c : Nat} (h : CntP l k c) (hn : IsL l k) : CntP l (k + 1) (c + 1) := by
  obtain ⟨L, h1, h2, h3⟩ := h
  refine ⟨(k : Int) :: L, List.nodup_cons.2 ⟨fun q => by have := ((h2 _).1 q).2; omega, h1⟩, fun x => ?_, by rw [List.length_cons, h3]⟩
  rw [List.mem_cons, h2]
  constructor
  · rintro (rfl | ⟨a, b⟩)
    · exact ⟨hn, by omega⟩
    · exact ⟨a, by omega⟩
  · rintro ⟨a, b⟩
    by_cases e : x = k
    · exact .inl e
    · exact .inr ⟨a, by omega⟩
theorem CntP.done {l : List Mv} (hg : ∀ x ∈ l, regB x.1 = true ∧ regB x.2 = true) {c : Nat} (h : CntP l 16 c) : CycN l c := by
  obtain ⟨L, h1, h2, h3⟩ := h
  exact ⟨L, h1, fun x => (h2 x).trans ⟨fun q => q.1, fun q => ⟨q, (isl_reg hg q).2⟩⟩, h3⟩
theorem few16 {l : List Mv} (h : namedB l = true) : l.length ≤ 16 := by
  obtain ⟨h1, h2⟩ := named_iff.1 h
  have := pig_le h1 (F := ((List.range 16).map fun (i : Nat) => (i : Int) : List Int)) fun y hy => by
    obtain ⟨x, hx, rfl⟩ := List.mem_map.1 hy
    obtain ⟨a, b⟩ := regB_iff.1 (h2 x hx).1
    exact List.mem_map.2 ⟨x.1.toNat, List.mem_range.2 (by omega), by omega⟩
  simpa using this
theorem itr_reg {l : List Mv} (hg : ∀ x ∈ l, regB x.1 = true ∧ regB x.2 = true) {t : Nat} {r y : Int} (h : itr l (t + 1) r = some y) : 0 ≤ y ∧ y < 16 := by
  rw [itr] at h
  cases e : itr l t r with
  | none => rw [e] at h; cases h
  | some z =>
    rw [e] at h
    exact regB_iff.1 (hg _ (lk_mem (l := l) h)).2
def DcP (l : List Mv) (w : World) (e : Ending) (w' : World) : Prop := ∃ k : Nat, e = .returned (.int .i64 k) ∧ (namedB l = true → CycN l k) ∧ (namedB l = false → k = 0) ∧ Below w.heap.size w w'
set_option maxRecDepth 100000 in
set_option maxHeartbeats 4000000 in
theorem dcircles_any (A : Option Addr) (n c : Nat) (l : List Mv) (w : World) (hh : MvsAt w w.heap.size A n l) (hm : n < 9223372036854775807) :
    Calls Try.prog 16 #[.slice A n c] w (DcP l w) := by
  have HF := hide (⟨hh, Below.refl _ _⟩ : DF A n l w w)
  have HL := hide hh.1
  clear hh
  cases hnm : namedB l
  · go_enter Try.func16, Try.ntmps16
    go_wp2_with fail
    refine (dnamed_any A n c l _ HF.out.mvs hm).mono ?_
    rintro e w2 ⟨rfl, hb⟩
    rw [hnm]
    replace HF := hide (HF.out.step hb)
    have HNM := hide hnm
    clear hb hnm
    go_wp2
    go_ret
    exact ⟨0, rfl, (fun h => absurd (HNM.out.symm.trans h) (by decide)), (fun _ => rfl), HF.out.below⟩
  · go_enter Try.func16, Try.ntmps16
    go_wp2_with fail
    refine (dnamed_any A n c l _ HF.out.mvs hm).mono ?_
    rintro e w2 ⟨rfl, hb⟩
    rw [hnm]
    replace HF := hide (HF.out.step hb)
    have HNM := hide hnm
    have HG := hide (named_iff.1 hnm).2
    have H16 := hide (few16 hnm)
    clear hb hnm
    go_wp2
    go_loop [3, 4] (fun nv rv => ∃ r k : Nat, r ≤ 16 ∧ rv = .int .i8 r ∧ nv = .int .i64 k ∧ k ≤ r ∧ Hid (CntP l r k)) (fun _ rv => 16 - (intOf rv).toNat)
    case atStart => exact ⟨0, 0, by omega, rfl, rfl, by omega, CntP.start HG.out⟩
    case round =>
      obtain ⟨r, k, hr, rfl, rfl, hkr, HC⟩ := hrel
      by_cases hlr : r < 16
      · go_wp2_with fail
        refine (dfrom_any A n c l r _ w2 HF.out.mvs hm).mono ?_
        rintro e w' ⟨rfl, rfl⟩
        obtain ⟨f, hf⟩ : ∃ v, (lk l (r : Int)).getD (-1) = v := ⟨_, rfl⟩
        rw [hf]
        have HFF := hide hf
        clear hf
        go_wp2
        go_loop [5, 6, 7] (fun bv av iv => ∃ (t : Nat) (b : Bool) (a : Int), t ≤ 16 ∧ iv = .int .i64 t ∧ bv = .bool b ∧ av = .int .i8 a ∧ Hid (stp l r t = a) ∧ Hid (IW l r t b)) (fun _ _ iv => 16 - (intOf iv).toNat)
        case atStart => exact ⟨0, true, f, by omega, rfl, rfl, rfl, HFF.out, IW.start l r⟩
        case round =>
          obtain ⟨t, b, a, ht, rfl, rfl, rfl, HA, HI⟩ := hrel
          cases hk : itr l (t + 1) (r : Int) with
          | none =>
            have ha : a = -1 := by rw [← HA.out]; unfold stp; rw [hk]; rfl
            subst ha
            have HNO := hide (HC.out.no (fun h : IsL l (r : Int) => no_none hk h.1.1))
            clear hk
            have hq : ((-1 : Int) == (r : Int)) = false := by
              rw [beq_eq_false_iff_ne]
              omega
            by_cases htt : t < 16
            all_goals
              go_wp2
              go_round
              case measure => simp [intOf]; omega
              case rel => exact ⟨r + 1, k, by omega, by go_num, rfl, by omega, HNO.out⟩
          | some y =>
            have ha : a = y := by rw [← HA.out]; unfold stp; rw [hk]; rfl
            subst ha
            obtain ⟨hy0, hy1⟩ := itr_reg HG.out hk
            cases hq : (a == (r : Int))
            · have hne : ¬ a = (r : Int) := by simpa using hq
              by_cases htt : t < 16
              · have HNX := hide (show stp l r (t + 1) = (lk l a).getD (-1) by unfold stp; rw [itr_next hk])
                have HIN := hide (fun b' q => HI.out.next (b' := b') hk hne q)
                have hnq : (a != (r : Int)) = true := by simpa using hne
                clear hk
                cases b
                · go_wp2_with fail
                  refine (dfrom_any A n c l a _ w2 HF.out.mvs hm).mono ?_
                  rintro e w' ⟨rfl, rfl⟩
                  go_wp2
                  go_round
                  case measure => simp [intOf]; omega
                  case rel => exact ⟨t + 1, false, _, by omega, by go_num, rfl, rfl, HNX.out, HIN.out false (by simp)⟩
                · by_cases hlt : (r : Int) < a
                  · go_wp2_with fail
                    refine (dfrom_any A n c l a _ w2 HF.out.mvs hm).mono ?_
                    rintro e w' ⟨rfl, rfl⟩
                    go_wp2
                    go_round
                    case measure => simp [intOf]; omega
                    case rel => exact ⟨t + 1, true, _, by omega, by go_num, rfl, rfl, HNX.out, HIN.out true (by simpa using hlt)⟩
                  · go_wp2_with fail
                    refine (dfrom_any A n c l a _ w2 HF.out.mvs hm).mono ?_
                    rintro e w' ⟨rfl, rfl⟩
                    go_wp2
                    go_round
                    case measure => simp [intOf]; omega
                    case rel => exact ⟨t + 1, false, _, by omega, by go_num, rfl, rfl, HNX.out, HIN.out false (by simpa using hlt)⟩
              · obtain rfl : t = 16 := by omega
                have HNO := hide (HC.out.no (fun h : IsL l (r : Int) => HI.out.long H16.out hk hne h.1.1))
                clear hk
                go_wp2
                go_round
                case measure => simp [intOf]; omega
                case rel => exact ⟨r + 1, k, by omega, by go_num, rfl, by omega, HNO.out⟩
            · have he : a = (r : Int) := by simpa using hq
              subst he
              have HY := hide (HI.out.yes hk)
              clear hk hq
              by_cases hfr : f = (r : Int)
              · have HNO := hide (HC.out.no (fun h : IsL l (r : Int) => by
                  obtain ⟨y, _, hy, _⟩ := onc_back h.1.1 1
                  rw [itr_one] at hy
                  have := HFF.out
                  rw [hy] at this
                  exact h.2 (by rw [hy]; have e : y = f := this; rw [e, hfr])))
                subst hfr
                by_cases htt : t < 16
                all_goals
                  go_wp2_with fail
                  refine (dfrom_any A n c l r _ w2 HF.out.mvs hm).mono ?_
                  rintro e w' ⟨rfl, rfl⟩
                  rw [HFF.out]
                  go_wp2
                  go_round
                  case measure => simp [intOf]; omega
                  case rel => exact ⟨r + 1, k, by omega, by go_num, rfl, by omega, HNO.out⟩
              · have hlk : lk l (r : Int) ≠ some (r : Int) := fun e => hfr (by have := HFF.out; rw [e] at this; exact this.symm)
                have hfq : (f != (r : Int)) = true := by simpa using hfr
                cases b
                · have HNO := hide (HC.out.no (fun h : IsL l (r : Int) => by have := HY.out.1 h.1; cases this))
                  clear hlk
                  by_cases htt : t < 16
                  all_goals
                    go_wp2_with fail
                    refine (dfrom_any A n c l r _ w2 HF.out.mvs hm).mono ?_
                    rintro e w' ⟨rfl, rfl⟩
                    rw [HFF.out]
                    go_wp2
                    go_round
                    case measure => simp [intOf]; omega
                    case rel => exact ⟨r + 1, k, by omega, by go_num, rfl, by omega, HNO.out⟩
                · have HYES := hide (HC.out.yes (⟨HY.out.2 rfl, hlk⟩ : IsL l (r : Int)))
                  clear hlk
                  by_cases htt : t < 16
                  all_goals
                    go_wp2_with fail
                    refine (dfrom_any A n c l r _ w2 HF.out.mvs hm).mono ?_
                    rintro e w' ⟨rfl, rfl⟩
                    rw [HFF.out]
                    go_wp2
                    go_round
                    case measure => simp [intOf]; omega
                    case rel => exact ⟨r + 1, k + 1, by omega, by go_num, by go_num, by omega, HYES.out⟩
      · obtain rfl : r = 16 := by omega
        go_wp2
        go_ret
        exact ⟨k, rfl, (fun _ => HC.out.done HG.out), (fun h => absurd (HNM.out.symm.trans h) (by decide)), HF.out.below⟩
end Go.Proofs.Ytdnibhcpbdjhlaa
