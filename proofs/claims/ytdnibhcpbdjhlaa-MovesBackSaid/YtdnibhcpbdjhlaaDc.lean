/-
  The document's free. Conditions: those written in each statement.
-/
import Derived.Test.YtdnibhcpbdjhlaaDa
namespace Go.Proofs.Ytdnibhcpbdjhlaa
open Go.RowKit
set_option linter.unusedVariables false
set_option linter.unusedSimpArgs false
def freeI (l : List Mv) : Int := match freeP l with
  | some k => k
  | none => -1
def OkTo (l : List Mv) (k : Nat) (x0 : Int) (j : Nat) : Prop := ∀ q y, q < j → q ≠ k → l[q]? = some y → y.2 ≠ x0
theorem okTo_same {l : List Mv} {k j : Nat} {x0 : Int} (h : j = k) : OkTo l k x0 (j + 1) ↔ OkTo l k x0 j := by
  subst h
  exact ⟨fun h q y a b c => h q y (by omega) b c, fun h q y a b c => h q y (by omega) b c⟩
theorem okTo_next {l : List Mv} {k j : Nat} {x0 : Int} {y : Mv} (hy : l[j]? = some y) (h : j ≠ k) : OkTo l k x0 (j + 1) ↔ OkTo l k x0 j ∧ y.2 ≠ x0 := by
  constructor
  · intro q
    exact ⟨fun p z a b c => q p z (by omega) b c, q j y (by omega) h hy⟩
  · rintro ⟨q, e⟩ p z a b c
    by_cases hp : p = j
    · subst hp
      rw [hy] at c
      obtain rfl := Option.some.inj c
      exact e
    · exact q p z (by omega) b c
theorem okTo_free {l : List Mv} {k : Nat} {x : Mv} (hx : l[k]? = some x) : OkTo l k x.1 l.length ↔ FreeAt l k := by
  constructor
  · intro h
    exact ⟨x, hx, fun j y hj hy => h j y (List.getElem?_eq_some_iff.1 hy).1 hj hy⟩
  · rintro ⟨x', hx', h⟩ q y _ hq hy
    rw [hx] at hx'
    obtain rfl := Option.some.inj hx'
    exact h q y hq hy
set_option maxRecDepth 100000 in
set_option maxHeartbeats 4000000 in
theorem dfree_any (A : Option Addr) (n c : Nat) (l : List Mv) (w : World) (hh : MvsAt w w.heap.size A n l) (hm : n < 9223372036854775807) :
    Calls Try.prog 20 #[.slice A n c] w fun e w' => e = .returned (.int .i64 (freeI l)) ∧ Below w.heap.size w w' := by
  have HF := hide (⟨hh, Below.refl _ _⟩ : DF A n l w w)
  have HL := hide hh.1
  clear hh
  go_enter Try.func20, Try.ntmps20
  go_wp2
  go_loopw [3] (fun i wr => ∃ k : Nat, k ≤ n ∧ i = .int .i64 k ∧ Hid (∀ j, j < k → ¬ FreeAt l j) ∧ DF A n l w wr) (fun i _ => n - (intOf i).toNat)
  case atStart => exact ⟨0, by omega, rfl, fun j h => by omega, HF.out⟩
  case round =>
    obtain ⟨k, hk, rfl, HN, hf⟩ := hrel
    clear HF
    have HF := hide hf
    clear hf
    by_cases hlt : k < n
    · obtain ⟨ad, x, rfl, hab, hx, hxw, hcell⟩ := HF.out.mvs.at_ hlt
      have HX := hide hx
      obtain ⟨x0, x1⟩ := x
      have HFR := hide (okTo_free hx)
      dsimp only at HFR
      rw [HL.out] at HFR
      obtain ⟨p, hp⟩ : ∃ p, ad.add (k * 2) = p := ⟨_, rfl⟩
      clear hcell hxw hx
      go_wp2
      obtain ⟨wo, rfl⟩ : ∃ wo : World, wo = wr := ⟨_, rfl⟩
      go_loopw [4, 5] (fun bv i wq => ∃ (j : Nat) (b : Bool), j ≤ n ∧ i = .int .i64 j ∧ bv = .bool b ∧ Hid (b = true ↔ OkTo l k x0 j) ∧ DF (some ad) n l w wq) (fun _ i _ => n - (intOf i).toNat)
      case atStart => exact ⟨0, true, by omega, rfl, rfl, ⟨fun _ q y h => by omega, fun _ => rfl⟩, HF.out⟩
      case round =>
        obtain ⟨j, b, hj, rfl, rfl, HB, hf⟩ := hrel
        clear HF
        have HF := hide hf
        clear hf
        by_cases hlj : j < n
        · obtain ⟨ad', y, hae, _, hy, _, hcy⟩ := HF.out.mvs.at_ hlj
          obtain ⟨ad2, x', hae2, _, hx2, _, hcx⟩ := HF.out.mvs.at_ hlt
          injection hae with hae
          subst hae
          injection hae2 with hae2
          subst hae2
          have hxx : x' = (x0, x1) := by
            have := HX.out
            rw [hx2] at this
            exact Option.some.inj this
          subst hxx
          have HY := hide hy
          obtain ⟨y0, y1⟩ := y
          have e0 := hcx 0 _ rfl
          have f1 := hcy 1 _ rfl
          obtain ⟨q, hq⟩ : ∃ p, ad.add (j * 2) = p := ⟨_, rfl⟩
          rw [hp] at e0
          rw [hq] at f1
          simp [Addr.add] at e0 f1
          clear hcx hcy hy hx2
          cases b
          · have HNX := hide (show ¬ OkTo l k x0 (j + 1) from fun h => by
              have : false = true := HB.out.2 (fun q y a b c => h q y (by omega) b c)
              cases this)
            go_wp2_with fail
            go_quiet (fail)
            go_wp2
            go_roundw
            case measure => simp [intOf]; omega
            case rel => exact ⟨j + 1, false, by omega, by go_num, rfl, ⟨(fun h => by cases h), (fun h => absurd h HNX.out)⟩, HF.out.step (dDN _)⟩
          · have HT := hide (HB.out.1 rfl)
            cases hji : ((j : Int) == (k : Int))
            · have hne : j ≠ k := by intro e; simp [e] at hji
              cases hyx : (y1 != x0)
              · have HNX := hide (show ¬ OkTo l k x0 (j + 1) from fun h => absurd (show y1 = x0 by simpa using hyx) ((okTo_next HY.out hne).1 h).2)
                go_wp2_with fail
                go_quiet (fail)
                go_wp2
                go_roundw
                case measure => simp [intOf]; omega
                case rel => exact ⟨j + 1, false, by omega, by go_num, rfl, ⟨(fun h => by cases h), (fun h => absurd h HNX.out)⟩, HF.out.step (dDN _)⟩
              · have HNX := hide ((okTo_next HY.out hne).2 ⟨HT.out, by simpa using hyx⟩)
                go_wp2_with fail
                go_quiet (fail)
                go_wp2
                go_roundw
                case measure => simp [intOf]; omega
                case rel => exact ⟨j + 1, true, by omega, by go_num, rfl, ⟨fun _ => HNX.out, fun _ => rfl⟩, HF.out.step (dDN _)⟩
            · have HNX := hide ((okTo_same (l := l) (x0 := x0) (show j = k by
                have h : (j : Int) = (k : Int) := (by simpa using hji)
                omega)).2 HT.out)
              go_wp2_with fail
              go_quiet (fail)
              go_wp2
              go_roundw
              case measure => simp [intOf]; omega
              case rel => exact ⟨j + 1, true, by omega, by go_num, rfl, ⟨fun _ => HNX.out, fun _ => rfl⟩, HF.out.step (dDN _)⟩
        · obtain rfl : j = n := by omega
          have HD := hide (HB.out.trans HFR.out)
          clear HB
          cases b
          · have HNO := hide (show ¬ FreeAt l k from fun h => by have := HD.out.2 h; cases this)
            go_wp2
            go_roundw
            case measure => simp [intOf]; omega
            case rel =>
              refine ⟨k + 1, by omega, by go_num, fun q hq => ?_, HF.out⟩
              rcases Nat.lt_or_ge q k with h | h
              · exact HN.out q h
              · obtain rfl : q = k := by omega
                exact HNO.out
          · have HP := hide (freeP_some (HD.out.1 rfl) HN.out)
            go_wp2
            go_ret
            exact ⟨ret_i (by unfold freeI; rw [HP.out]), HF.out.below⟩
    · obtain rfl : k = n := by omega
      have HP := hide (freeP_none (l := l) (fun j hj => HN.out j (by have := HL.out; omega)))
      go_wp2
      go_ret
      exact ⟨ret_i (by unfold freeI; rw [HP.out]), HF.out.below⟩
end Go.Proofs.Ytdnibhcpbdjhlaa
