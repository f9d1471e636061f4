/-
  The document's register, from, named, May. Conditions: those written in each statement.
-/
import Derived.Test.YtdnibhcpbdjhlaaMr
import Derived.BigQuiet
namespace Go.Proofs.Ytdnibhcpbdjhlaa
open Go.RowKit
set_option linter.unusedVariables false
set_option linter.unusedSimpArgs false
theorem lk_at : ∀ {l : List Mv} {k : Nat} {x : Mv} {s : Int}, l[k]? = some x → x.1 = s → (∀ j y, j < k → l[j]? = some y → y.1 ≠ s) → lk l s = some x.2
  | [], k, x, s, h, _, _ => by simp at h
  | z :: t, 0, x, s, h, e, _ => by
    injection h with h
    subst h
    show (if z.1 = s then some z.2 else lk t s) = some z.2
    rw [if_pos e]
  | z :: t, k + 1, x, s, h, e, hn => by
    show (if z.1 = s then some z.2 else lk t s) = some x.2
    rw [if_neg (hn 0 z (by omega) rfl)]
    exact lk_at (l := t) (by simpa using h) e fun j y hj hy => hn (j + 1) y (by omega) (by simpa using hy)
theorem lk_no {l : List Mv} {s : Int} (hn : ∀ j y, j < l.length → l[j]? = some y → y.1 ≠ s) : lk l s = none := lk_none.2 fun h => by
  obtain ⟨x, hx, e⟩ := List.mem_map.1 h
  obtain ⟨j, hj, rfl⟩ := List.getElem_of_mem hx
  exact hn j _ hj (List.getElem?_eq_getElem hj) e
theorem dreg_any (r : Int) (w : World) : Calls Try.prog 22 #[.int .i8 r] w fun e w' => e = .returned (.bool (regB r)) ∧ w = w' := by
  unfold regB
  by_cases h : 0 ≤ r
  · go_enter Try.func22, Try.ntmps22
    go_wp2
    go_ret
    exact ⟨ret_b (by rw [Bool.eq_iff_iff]; simp; omega), rfl⟩
  · go_enter Try.func22, Try.ntmps22
    go_wp2
    go_ret
    exact ⟨ret_b (by rw [Bool.eq_iff_iff]; simp; omega), rfl⟩
set_option maxRecDepth 100000 in
set_option maxHeartbeats 2000000 in
theorem dfrom_any (A : Option Addr) (n c : Nat) (l : List Mv) (s : Int) (B : Nat) (w : World) (hh : MvsAt w B A n l) (hm : n < 9223372036854775807) :
    Calls Try.prog 24 #[.slice A n c, .int .i8 s] w fun e w' => e = .returned (.int .i8 ((lk l s).getD (-1))) ∧ w = w' := by
  have HH := hide hh
  clear hh
  go_enter Try.func24, Try.ntmps24
  go_wp2
  go_loop [5] (fun i => ∃ k : Nat, k ≤ n ∧ i = .int .i64 k ∧ Hid (∀ j y, j < k → l[j]? = some y → y.1 ≠ s)) (fun i => n - (intOf i).toNat)
  case atStart => exact ⟨0, by omega, rfl, fun j y h => by omega⟩
  case round =>
    obtain ⟨k, hk, rfl, HN⟩ := hrel
    by_cases hlt : k < n
    · obtain ⟨ad, x, rfl, hab, hx, hxw, hcell⟩ := HH.out.at_ hlt
      have HX := hide hx
      obtain ⟨x0, x1⟩ := x
      have e0 := hcell 0 _ rfl
      have e1 := hcell 1 _ rfl
      obtain ⟨p, hp⟩ : ∃ p, ad.add (k * 2) = p := ⟨_, rfl⟩
      rw [hp] at e0 e1
      simp [Addr.add] at e0 e1
      clear hcell hxw hx
      cases hq : (x0 == s)
      · have HQ := hide (show ¬ x0 = s by simpa using hq)
        go_wp2
        go_round
        case measure => simp [intOf]; omega
        case rel =>
          refine ⟨k + 1, by omega, by go_num, fun j y hj hy => ?_⟩
          rcases Nat.lt_or_ge j k with h | h
          · exact HN.out j y h hy
          · obtain rfl : j = k := by omega
            have := HX.out
            rw [hy] at this
            obtain rfl := Option.some.inj this
            exact HQ.out
      · have HQ := hide (show x0 = s by simpa using hq)
        have HLK := hide (lk_at HX.out HQ.out HN.out)
        go_wp2
        go_ret
        exact ⟨by rw [HLK.out]; rfl, rfl⟩
    · obtain rfl : k = n := by omega
      have HLK := hide (lk_no (l := l) (s := s) (by rw [HH.out.1]; exact HN.out))
      go_wp2
      go_ret
      exact ⟨by rw [HLK.out]; rfl, rfl⟩
theorem dDN {B : Nat} {w : World} (m : Nat) : Below B w (w.drewN m) := by
  have := Below.refl B w
  exact ⟨this.os, this.tape, this.output, this.size, this.block⟩
/-- The document's moves in a world. -/
structure DF (A : Option Addr) (n : Nat) (l : List Mv) (w W : World) : Prop where
  mvs : MvsAt W w.heap.size A n l
  below : Below w.heap.size w W
theorem DF.step {A : Option Addr} {n : Nat} {l : List Mv} {w W V : World} (h : DF A n l w W) (hb : Below W.heap.size W V) : DF A n l w V :=
  ⟨h.mvs.below (hb.mono h.below.size), h.below.trans (hb.mono h.below.size)⟩
theorem nm_good {l : List Mv} {k : Nat} {x : Mv} (hx : l[k]? = some x) (hn : ∀ q y, q < k → l[q]? = some y → y.1 ≠ x.1) (h0 : regB x.1 = true) (h1 : regB x.2 = true) : nmAt l k = true := by
  unfold nmAt
  rw [hx]
  have : ((l.take k).map (·.1)).contains x.1 = false := by
    rw [Bool.eq_false_iff]
    intro h
    have hm : x.1 ∈ (l.take k).map (·.1) := by simpa using h
    obtain ⟨y, hy, e⟩ := List.mem_map.1 hm
    obtain ⟨q, hq, rfl⟩ := List.getElem_of_mem hy
    rw [List.length_take] at hq
    rw [List.getElem_take] at e
    exact hn q _ (by omega) (List.getElem?_eq_getElem (by omega)) e
  show (!((l.take k).map (·.1)).contains x.1 && (regB x.1 && regB x.2)) = true
  rw [this, h0, h1]
  rfl
theorem nm_bad {l : List Mv} {k q : Nat} {x y : Mv} (hx : l[k]? = some x) (hq : q < k) (hy : l[q]? = some y) (e : y.1 = x.1) : nmAt l k = false := by
  unfold nmAt
  rw [hx]
  have : x.1 ∈ (l.take k).map (·.1) := by
    refine List.mem_map.2 ⟨y, ?_, e⟩
    refine List.mem_of_getElem? (i := q) ?_
    rw [List.getElem?_take, if_pos hq]
    exact hy
  have h2 : ((l.take k).map (·.1)).contains x.1 = true := by simpa using this
  show (!((l.take k).map (·.1)).contains x.1 && (regB x.1 && regB x.2)) = false
  rw [h2]
  rfl
theorem nm_reg {l : List Mv} {k : Nat} {x : Mv} (hx : l[k]? = some x) (h : regB x.1 = false ∨ regB x.2 = false) : nmAt l k = false := by
  unfold nmAt
  rw [hx]
  rcases h with h | h <;> simp [h]
set_option maxRecDepth 100000 in
set_option maxHeartbeats 4000000 in
theorem dnamed_any (A : Option Addr) (n c : Nat) (l : List Mv) (w : World) (hh : MvsAt w w.heap.size A n l) (hm : n < 9223372036854775807) :
    Calls Try.prog 23 #[.slice A n c] w (NmP (namedB l) w) := by
  have HF := hide (⟨hh, Below.refl _ _⟩ : DF A n l w w)
  have HL := hide hh.1
  clear hh
  go_enter Try.func23, Try.ntmps23
  go_wp2
  go_loopw [3] (fun i wr => ∃ k : Nat, k ≤ n ∧ i = .int .i64 k ∧ Hid (∀ j, j < k → nmAt l j = true) ∧ DF A n l w wr) (fun i _ => n - (intOf i).toNat)
  case atStart => exact ⟨0, by omega, rfl, fun j h => by omega, HF.out⟩
  case round =>
    obtain ⟨k, hk, rfl, HN, hf⟩ := hrel
    clear HF
    have HF := hide hf
    clear hf
    by_cases hlt : k < n
    · obtain ⟨ad, x, rfl, hab, hx, hxw, hcell⟩ := HF.out.mvs.at_ hlt
      have HX := hide hx
      obtain ⟨x0, x1⟩ := x
      have e0 := hcell 0 _ rfl
      have e1 := hcell 1 _ rfl
      obtain ⟨p, hp⟩ : ∃ p, ad.add (k * 2) = p := ⟨_, rfl⟩
      rw [hp] at e0 e1
      simp [Addr.add] at e0 e1
      clear hcell hxw hx
      cases h0 : regB x0
      · go_wp2_with fail
        refine (dreg_any x0 _).mono ?_
        rintro e w' ⟨rfl, rfl⟩
        rw [h0]
        go_wp2
        go_ret
        exact ⟨ret_b (named_no (k := k) (by rw [HL.out]; exact hlt) (nm_reg HX.out (.inl h0))).symm, HF.out.below⟩
      · cases h1 : regB x1
        · go_wp2_with fail
          refine (dreg_any x0 _).mono ?_
          rintro e w' ⟨rfl, rfl⟩
          rw [h0]
          go_wp2_with fail
          refine (dreg_any x1 _).mono ?_
          rintro e w' ⟨rfl, rfl⟩
          rw [h1]
          go_wp2
          go_ret
          exact ⟨ret_b (named_no (k := k) (by rw [HL.out]; exact hlt) (nm_reg HX.out (.inr h1))).symm, HF.out.below⟩
        · go_wp2_with fail
          refine (dreg_any x0 _).mono ?_
          rintro e w' ⟨rfl, rfl⟩
          rw [h0]
          go_wp2_with fail
          refine (dreg_any x1 _).mono ?_
          rintro e w' ⟨rfl, rfl⟩
          rw [h1]
          have H0 := hide h0
          have H1 := hide h1
          clear h0 h1 e0 e1
          go_wp2
          obtain ⟨wo, rfl⟩ : ∃ wo : World, wo = wr := ⟨_, rfl⟩
          go_loopw [4] (fun i wq => ∃ j : Nat, j ≤ k ∧ i = .int .i64 j ∧ Hid (∀ q y, q < j → l[q]? = some y → y.1 ≠ x0) ∧ DF (some ad) n l w wq) (fun i _ => k - (intOf i).toNat)
          case atStart => exact ⟨0, by omega, rfl, fun j y h => by omega, HF.out⟩
          case round =>
            obtain ⟨j, hj, rfl, HQ, hf⟩ := hrel
            clear HF
            have HF := hide hf
            clear hf
            by_cases hlj : j < k
            · obtain ⟨ad', y, hae, _, hy, _, hcy⟩ := HF.out.mvs.at_ (show j < n by omega)
              obtain ⟨ad2, x', hae2, _, hx2, _, hcx⟩ := HF.out.mvs.at_ hlt
              injection hae with hae
              subst hae
              injection hae2 with hae2
              subst hae2
              have hxx : x' = (x0, x1) := by
                have := HX.out
                rw [hx2] at this
                exact Option.some.inj this
              subst hxx
              have HY := hide hy
              obtain ⟨y0, y1⟩ := y
              have e0 := hcx 0 _ rfl
              have f0 := hcy 0 _ rfl
              obtain ⟨q, hq⟩ : ∃ p, ad.add (j * 2) = p := ⟨_, rfl⟩
              rw [hp] at e0
              rw [hq] at f0
              simp [Addr.add] at e0 f0
              clear hcx hcy hy hx2
              cases hb : (y0 == x0)
              · have HB := hide (show ¬ y0 = x0 by simpa using hb)
                go_wp2_with fail
                go_quiet (fail)
                go_wp2
                go_roundw
                case measure => simp [intOf]; omega
                case rel =>
                  refine ⟨j + 1, by omega, by go_num, fun q y hq hy => ?_, HF.out.step (dDN _)⟩
                  rcases Nat.lt_or_ge q j with h | h
                  · exact HQ.out q y h hy
                  · obtain rfl : q = j := by omega
                    have := HY.out
                    rw [hy] at this
                    obtain rfl := Option.some.inj this
                    exact HB.out
              · have HB := hide (show y0 = x0 by simpa using hb)
                go_wp2_with fail
                go_quiet (fail)
                go_wp2
                go_ret
                exact ⟨ret_b (named_no (k := k) (by rw [HL.out]; exact hlt) (nm_bad HX.out hlj HY.out HB.out)).symm, (HF.out.step (dDN _)).below⟩
            · obtain rfl : j = k := by omega
              go_wp2
              go_roundw
              case measure => simp [intOf]; omega
              case rel =>
                refine ⟨j + 1, by omega, by go_num, fun q hq => ?_, HF.out⟩
                rcases Nat.lt_or_ge q j with h | h
                · exact HN.out q h
                · obtain rfl : q = j := by omega
                  exact nm_good HX.out HQ.out H0.out H1.out
    · obtain rfl : k = n := by omega
      go_wp2
      go_ret
      exact ⟨ret_b (named_yes (fun j hj => HN.out j (by have := HL.out; omega))).symm, HF.out.below⟩
set_option maxRecDepth 100000 in
set_option maxHeartbeats 4000000 in
theorem dmay_any (A : Option Addr) (n c : Nat) (l : List Mv) (s : Int) (w : World) (hh : MvsAt w w.heap.size A n l) (hm : n < 9223372036854775807) :
    Calls Try.prog 14 #[.slice A n c, .int .i8 s] w (NmP (mayM l s) w) := by
  have HF := hide (⟨hh, Below.refl _ _⟩ : DF A n l w w)
  have HL := hide hh.1
  clear hh
  have bad : (regB s = false ∨ namedB l = false) → mayM l s = false := by
    intro h
    unfold mayM
    rcases h with h | h <;> simp [h]
  have HBAD := hide bad
  clear bad
  go_enter Try.func14, Try.ntmps14
  cases h0 : regB s
  · go_wp2_with fail
    refine (dreg_any s _).mono ?_
    rintro e w' ⟨rfl, rfl⟩
    rw [h0]
    go_wp2
    go_ret
    exact ⟨ret_b (HBAD.out (.inl h0)).symm, HF.out.below⟩
  · go_wp2_with fail
    refine (dreg_any s _).mono ?_
    rintro e w' ⟨rfl, rfl⟩
    rw [h0]
    have H0 := hide h0
    clear h0
    go_wp2_with fail
    refine (dnamed_any A n c l _ HF.out.mvs hm).mono ?_
    rintro e w2 ⟨rfl, hb⟩
    replace HF := hide (HF.out.step hb)
    clear hb
    cases h1 : namedB l
    · have HR := hide (HBAD.out (.inr h1))
      clear h1
      go_wp2
      go_ret
      exact ⟨ret_b HR.out.symm, HF.out.below⟩
    · have H1 := hide h1
      clear h1
      go_wp2
      go_loop [5] (fun i => ∃ k : Nat, k ≤ n ∧ i = .int .i64 k ∧ Hid (∀ j x, j < k → l[j]? = some x → x.1 ≠ s ∧ x.2 ≠ s)) (fun i => n - (intOf i).toNat)
      case atStart => exact ⟨0, by omega, rfl, fun j x h => by omega⟩
      case round =>
        obtain ⟨k, hk, rfl, HN⟩ := hrel
        by_cases hlt : k < n
        · obtain ⟨ad, x, rfl, hab, hx, hxw, hcell⟩ := HF.out.mvs.at_ hlt
          have HX := hide hx
          obtain ⟨x0, x1⟩ := x
          have e0 := hcell 0 _ rfl
          have e1 := hcell 1 _ rfl
          obtain ⟨p, hp⟩ : ∃ p, ad.add (k * 2) = p := ⟨_, rfl⟩
          rw [hp] at e0 e1
          simp [Addr.add] at e0 e1
          clear hcell hxw hx
          cases q0 : (x0 == s)
          · cases q1 : (x1 == s)
            · have HG := hide (show x0 ≠ s ∧ x1 ≠ s by simpa using And.intro q0 q1)
              go_wp2
              go_round
              case measure => simp [intOf]; omega
              case rel =>
                refine ⟨k + 1, by omega, by go_num, fun j y hj hy => ?_⟩
                rcases Nat.lt_or_ge j k with h | h
                · exact HN.out j y h hy
                · obtain rfl : j = k := by omega
                  have := HX.out
                  rw [hy] at this
                  obtain rfl := Option.some.inj this
                  exact HG.out
            · have HR := hide (may_bad (s := s) (List.mem_of_getElem? HX.out) (.inr (by simpa using q1)))
              go_wp2
              go_ret
              exact ⟨ret_b HR.out.symm, HF.out.below⟩
          · have HR := hide (may_bad (s := s) (List.mem_of_getElem? HX.out) (.inl (by simpa using q0)))
            go_wp2
            go_ret
            exact ⟨ret_b HR.out.symm, HF.out.below⟩
        · obtain rfl : k = n := by omega
          have HR := hide (show mayM l s = true by
            refine may_iff.2 ⟨fun x hx => ?_, H0.out, H1.out⟩
            obtain ⟨j, hj, rfl⟩ := List.getElem_of_mem hx
            exact HN.out j _ (by have := HL.out; omega) (List.getElem?_eq_getElem hj))
          go_wp2
          go_ret
          exact ⟨ret_b HR.out.symm, HF.out.below⟩
end Go.Proofs.Ytdnibhcpbdjhlaa
