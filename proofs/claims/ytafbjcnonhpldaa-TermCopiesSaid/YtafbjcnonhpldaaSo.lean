/-
  Contract: sorted, at integers and '<'. Conditions: those written in each statement.
-/
import Derived.Test.YtafbjcnonhpldaaProg
import Derived.Test.YtafbjcnonhpldaaRl
import Derived.Test.YtafbjcnonhpldaaMid
import Derived.Deep.QuietTactic
import Derived.BigQuiet
import Derived.BigRegion
import Derived.RegionTactic
namespace Go.Proofs.Ytafbjcnonhpldaa
open Go.RowKit
set_option linter.unusedVariables false
set_option linter.unusedSimpArgs false
theorem less_any (a b : Int) (w : World) : Calls Try.prog 23 #[.int .i64 a, .int .i64 b] w fun e w' => e = .returned (.bool (decide (a < b))) ∧ w = w' := by
  go_enter Try.func23, Try.ntmps23
  go_wp2
  go_ret
  exact ⟨rfl, rfl⟩
theorem less_q (a b : Int) (w : World) : Calls Try.prog 23 #[.int .i64 a, .int .i64 b] w fun e w' => e = .returned (.bool (decide (a < b))) ∧ w' = w := (less_any a b w).mono fun _ _ h => ⟨h.1, h.2.symm⟩
/-- The first i are in order but for number k, which is not above those behind it. -/
def InsI (f : Nat → Int) (i k : Nat) : Prop := (∀ a b, a < b → b ≤ i → a ≠ k → b ≠ k → f a ≤ f b) ∧ ∀ b, k < b → b ≤ i → f k ≤ f b
def UpTo (f : Nat → Int) (i : Nat) : Prop := ∀ a b, a < b → b < i → f a ≤ f b
theorem InsI.start {f : Nat → Int} {i : Nat} (h : UpTo f i) : InsI f i i := ⟨fun a b h1 h2 h3 h4 => h a b h1 (by omega), fun b h1 h2 => by omega⟩
theorem InsI.stop0 {f : Nat → Int} {i : Nat} (h : InsI f i 0) : UpTo f (i + 1) := fun a b h1 h2 => by
  by_cases ha : a = 0
  · subst ha; exact h.2 b h1 (by omega)
  · exact h.1 a b h1 (by omega) ha (by omega)
theorem InsI.stop {f : Nat → Int} {i k : Nat} (h : InsI f i (k + 1)) (hk : f k ≤ f (k + 1)) (hki : k + 1 ≤ i) : UpTo f (i + 1) := fun a b h1 h2 => by
  by_cases ha : a = k + 1
  · subst ha; exact h.2 b h1 (by omega)
  · by_cases hb : b = k + 1
    · subst hb
      by_cases hak : a = k
      · subst hak; exact hk
      · exact Int.le_trans (h.1 a k (by omega) (by omega) ha (by omega)) hk
    · exact h.1 a b h1 (by omega) ha hb
theorem InsI.swap {f g : Nat → Int} {i k : Nat} (h : InsI f i (k + 1)) (hki : k + 1 ≤ i) (hk : f (k + 1) < f k) (hg1 : g (k + 1) = f k) (hg0 : g k = f (k + 1)) (hg : ∀ j, j ≠ k → j ≠ k + 1 → g j = f j) : InsI g i k := by
  refine ⟨fun a b h1 h2 h3 h4 => ?_, fun b h1 h2 => ?_⟩
  · by_cases ha : a = k + 1
    · subst ha
      rw [hg1, hg b h4 (by omega)]
      exact h.1 k b (by omega) h2 (by omega) (by omega)
    · by_cases hb : b = k + 1
      · subst hb
        rw [hg1, hg a h3 ha]
        exact h.1 a k (by omega) (by omega) ha (by omega)
      · rw [hg a h3 ha, hg b h4 hb]
        exact h.1 a b h1 h2 ha hb
  · rw [hg0]
    by_cases hb : b = k + 1
    · subst hb
      rw [hg1]
      omega
    · rw [hg b (by omega) hb]
      exact h.2 b (by omega) h2
def at0 (l : List Int) (j : Nat) : Int := l.getD j 0
theorem at0_get {l : List Int} {j : Nat} (h : j < l.length) : l[j]? = some (at0 l j) := by
  unfold at0
  rw [List.getD_eq_getElem?_getD, List.getElem?_eq_getElem h]
  rfl
theorem sorted_of {l : List Int} (h : UpTo (at0 l) l.length) : l.Pairwise (· ≤ ·) := by
  rw [List.pairwise_iff_getElem]
  intro i j hi hj hij
  have := h i j hij hj
  unfold at0 at this
  rw [List.getD_eq_getElem?_getD, List.getD_eq_getElem?_getD, List.getElem?_eq_getElem hi, List.getElem?_eq_getElem hj] at this
  exact this
theorem swap_perm (l : List Int) {i j : Nat} (hi : i < l.length) (hj : j < l.length) : ((l.set i (at0 l j)).set j (at0 l i)).Perm l := by
  have hsp := @List.set_set_perm _ l i j hi hj
  have e : ∀ k (h : k < l.length), at0 l k = l[k] := fun k h => by
    have := at0_get h
    rw [List.getElem?_eq_getElem h] at this
    exact (Option.some.inj this).symm
  rw [e i hi, e j hj]
  exact hsp
theorem at0_set {l : List Int} {i j : Nat} {v : Int} (h : i < l.length) : at0 (l.set i v) j = if i = j then v else at0 l j := by
  unfold at0
  rw [List.getD_eq_getElem?_getD, List.getD_eq_getElem?_getD, List.getElem?_set]
  by_cases e : i = j
  · subst e; simp [h]
  · simp [e]
theorem only_trans {a b c : World} {g : Option Nat} (h : a.grownBy b g) (k : b.grownBy c g) : a.grownBy c g :=
  ⟨k.os.trans h.os, k.tape.trans h.tape, k.output.trans h.output, Nat.le_trans h.size k.size, fun i hi hn => (k.block i (Nat.lt_of_lt_of_le hi h.size) hn).trans (h.block i hi hn)⟩
/-- What stands while it is put in order. -/
def SoR (base g n cap : Nat) (xs ys : List Int) (w W : World) : Prop := RowL W base 3 1 (.slice (some ⟨g, 0, none⟩) n cap) n (ys.map (Value.int .i64)) ∧ ys.Perm xs ∧ ys.length = n ∧ w.grownBy W (some g)
theorem SoR.swap {base g n cap k : Nat} {xs ys : List Int} {w W : World} (h : SoR base g n cap xs ys w W) (hk : k + 1 < n) :
    SoR base g n cap xs ((ys.set (k + 1) (at0 ys k)).set k (at0 ys (k + 1))) w ((W.setCell ⟨g, k + 1, none⟩ (.int .i64 (at0 ys k))).setCell ⟨g, k, none⟩ (.int .i64 (at0 ys (k + 1)))) := by
  obtain ⟨h1, h2, h3, h4⟩ := h
  obtain ⟨r1, q1⟩ := h1.stored (k + 1) (.int .i64 (at0 ys k))
  obtain ⟨r2, q2⟩ := r1.stored k (.int .i64 (at0 ys (k + 1)))
  refine ⟨?_, (swap_perm ys (by omega) (by omega)).trans h2, by simp [h3], only_trans h4 (only_trans q1 q2)⟩
  rw [List.map_set, List.map_set]
  exact r2
theorem SoR.cells {base g n cap k : Nat} {xs ys : List Int} {w W : World} (h : SoR base g n cap xs ys w W) (hk : k < n) : W.cell? ⟨g, k, none⟩ = some (.int .i64 (at0 ys k)) := by
  rw [h.1.cell k (by omega), List.getElem?_map, at0_get (by rw [h.2.2.1]; exact hk)]
  rfl
theorem SoR.drewN {base g n cap : Nat} {xs ys : List Int} {w W : World} (h : SoR base g n cap xs ys w W) (k : Nat) : SoR base g n cap xs ys w (W.drewN k) := ⟨h.1, h.2.1, h.2.2.1, only_drewN h.2.2.2 k⟩
theorem SoR.drew {base g n cap : Nat} {xs ys : List Int} {w W : World} (h : SoR base g n cap xs ys w W) : SoR base g n cap xs ys w W.drew := ⟨h.1, h.2.1, h.2.2.1, only_drew h.2.2.2⟩
set_option maxRecDepth 100000 in
set_option maxHeartbeats 4000000 in
theorem sorted_any (base g n cap : Nat) (xs : List Int) (w : World) (h : RowL w base 3 1 (.slice (some ⟨g, 0, none⟩) n cap) n (xs.map (Value.int .i64))) (hm : n ≤ 9223372036854775807) (hcap : n ≤ cap) :
    Calls Try.prog 22 #[.slice (some ⟨g, 0, none⟩) n cap, .func (.func 23) #[] #[]] w fun e w' => e = .returned (.slice (some ⟨g, 0, none⟩) n cap) ∧ ∃ ys : List Int, RowL w' base 3 1 (.slice (some ⟨g, 0, none⟩) n cap) n (ys.map (Value.int .i64)) ∧ ys.Perm xs ∧ ys.Pairwise (· ≤ ·) ∧ w.grownBy w' (some g) := by
  have hlen : xs.length = n := by simpa using h.1
  have H0 := hide (show SoR base g n cap xs xs w w from ⟨h, .refl _, hlen, ⟨rfl, rfl, rfl, Nat.le_refl _, fun _ _ _ => rfl⟩⟩)
  clear h
  go_enter Try.func22, Try.ntmps22
  go_wp2
  go_loopw [9] (fun iv wq => ∃ (i : Nat) (ys : List Int), i ≤ n ∧ iv = .int .i64 i ∧ SoR base g n cap xs ys w wq ∧ UpTo (at0 ys) i) (fun iv _ => n - (intOf iv).toNat)
  case atStart => exact ⟨0, xs, by omega, rfl, H0.out, fun a b h1 h2 => by omega⟩
  case round =>
    obtain ⟨i, ys, hi, rfl, hs, hu⟩ := hrel
    clear H0
    have HS := hide hs
    have HU := hide hu
    clear hs hu hlen
    by_cases hlt : i < n
    · go_wp2
      obtain ⟨wo, rfl⟩ : ∃ wo : World, wo = wr := ⟨_, rfl⟩
      go_loopw [6] (fun kv wq => ∃ (k : Nat) (ys : List Int), k ≤ i ∧ kv = .int .i64 k ∧ SoR base g n cap xs ys w wq ∧ InsI (at0 ys) i k) (fun kv _ => (intOf kv).toNat)
      case atStart => exact ⟨i, ys, by omega, rfl, HS.out, InsI.start HU.out⟩
      case round =>
        obtain ⟨k, zs, hk, rfl, hs, hu⟩ := hrel
        clear HS HU
        have HS := hide hs
        have HU := hide hu
        clear hs hu
        rcases (show k = 0 ∨ ∃ j, k = j + 1 by cases k; exact .inl rfl; exact .inr ⟨_, rfl⟩) with rfl | ⟨j, rfl⟩
        · rw [show ((0 : Nat) : Int) = 0 from rfl]
          go_wp2
          go_quiet (fail)
          go_wp2
          refine ⟨⟨i + 1, zs, by omega, by go_num, HS.out.drewN _, HU.out.stop0⟩, (by simp [intOf]; try omega)⟩
        · have c1 := HS.out.cells (k := j + 1) (by omega)
          have c0 := HS.out.cells (k := j) (by omega)
          obtain ⟨x1, hx1⟩ : ∃ x, at0 zs (j + 1) = x := ⟨_, rfl⟩
          obtain ⟨x0, hx0⟩ : ∃ x, at0 zs j = x := ⟨_, rfl⟩
          rw [hx1] at c1
          rw [hx0] at c0
          have HX1 := hide hx1
          have HX0 := hide hx0
          clear hx0 hx1
          rw [show ((j + 1 : Nat) : Int) = (j : Int) + 1 from by omega]
          have hj0 : (0 : Int) ≤ (j : Int) + 1 := by omega
          have hj1 : (j : Int) + 1 < (n : Int) := by omega
          have hjn : (j : Int) < (n : Int) := by omega
          have hj00 : (0 : Int) ≤ (j : Int) := by omega
          have hjc : decide ((0 : Int) < (j : Int) + 1) = true := by simp <;> omega
          have hjt : ((j : Int) + 1).toNat = j + 1 := by omega
          have hwj : IntKind.i64.wrap ((j : Int) + 1 - 1) = (j : Int) := by
            rw [show (j : Int) + 1 - 1 = (j : Int) by omega]
            exact IntWalk.i64_in _ (by omega)
          go_wp2
          go_quiet ((go_at_call 23; exact Calls.quiet_of_same (less_q _ _ _)))
          replace HS := hide (HS.out.drewN nq)
          generalize wr.drewN nq = w2 at HS ⊢
          clear c1 c0
          by_cases hx : x1 < x0
          · have c1 := HS.out.cells (k := j + 1) (by omega)
            have c0 := HS.out.cells (k := j) (by omega)
            have f1 := HS.out.1.frozen (j + 1)
            have f0 := HS.out.1.frozen j
            rw [HX1.out] at c1
            rw [HX0.out] at c0
            go_wp2
            go_region
            go_wp2
            refine ⟨⟨j, _, by omega, rfl, ?_, HU.out.swap (g := at0 ((zs.set (j + 1) (at0 zs j)).set j (at0 zs (j + 1)))) hk (by rw [HX1.out, HX0.out]; exact hx) ?_ ?_ ?_⟩, (by simp [intOf]; try omega)⟩
            · have := (HS.out.swap (k := j) (by omega)).drew
              rw [HX1.out, HX0.out] at this ⊢
              exact this
            · have hl := HS.out.2.2.1
              rw [at0_set (by simp; omega), if_neg (by omega), at0_set (by omega), if_pos rfl]
            · have hl := HS.out.2.2.1
              rw [at0_set (by simp; omega), if_pos rfl]
            · intro q h1 h2
              have hl := HS.out.2.2.1
              rw [at0_set (by simp; omega), if_neg (by omega), at0_set (by omega), if_neg (by omega)]
          · go_wp2
            refine ⟨⟨i + 1, zs, by omega, by go_num, HS.out, HU.out.stop (by rw [HX1.out, HX0.out]; omega) hk⟩, (by simp [intOf]; try omega)⟩
    · obtain rfl : i = n := by omega
      go_wp2
      go_ret
      obtain ⟨h1, h2, h3, h4⟩ := HS.out
      exact ⟨rfl, ys, h1, h2, sorted_of (by rw [h3]; exact HU.out), h4⟩
theorem sorted_nil (w : World) : Calls Try.prog 22 #[.slice none 0 0, .func (.func 23) #[] #[]] w fun e w' => e = .returned (.slice none 0 0) ∧ w = w' := by
  go_enter Try.func22, Try.ntmps22
  go_wp2
  go_loop [9] (fun iv => iv = .int .i64 0) (fun iv => 0)
  case atStart => rfl
  case round =>
    subst hrel
    go_wp2
    go_ret
    exact ⟨rfl, rfl⟩
end Go.Proofs.Ytafbjcnonhpldaa
