/-
  hints.Block and what it calls: the first block at an offset. Conditions: those written in each statement.
-/
import Derived.Test.YtmnokkomhgpmmaaWb
namespace Go.Proofs.Ytmnokkomhgpmmaa
open Go.RowKit
set_option linter.unusedVariables false
set_option linter.unusedSimpArgs false
set_option maxHeartbeats 400000 in
theorem cl_at (ad : Addr) (v a : Int) (b : Nat) (w : World) (hv : w.cell? ad = some (.int .i64 v)) (hb : w.cell? ⟨b, 0, none⟩ = some (.int .i64 a)) :
    Calls Try.prog 22 #[.pointer (some ad), .pointer (some ⟨b, 0, none⟩)] w fun e w' => e = .returned (.bool (v == a)) ∧ ∃ m, w' = w.drewN m := by
  go_enter Try.func22, Try.ntmps22
  go_wp2_with fail
  go_quiet (fail)
  go_wp2
  go_ret
  exact ⟨rfl, _, rfl⟩
set_option maxHeartbeats 400000 in
theorem great_any (s : Int) (A : Option Addr) (n c : Nat) (w : World) (hm : n < 9223372036854775808) :
    Calls Try.prog 7 #[.agg #[.int .i64 s, .slice A n c]] w fun e w' => e = .returned (.bool (decide (100 < n))) ∧ Below w.heap.size w w' := by
  go_enter Try.func7, Try.ntmps7
  go_wp2
  go_ret
  exact ⟨ret_b (by rw [Bool.eq_iff_iff]; simp; omega), (Below.refl _ _).alloc (Nat.le_refl _) _⟩
/-- The first block at an offset; -1: there is none. -/
def firstFrom (a : Int) : List HD → Nat → Int
  | [], _ => -1
  | x :: r, k => if x.at_ = a then (k : Int) else firstFrom a r (k + 1)
def firstAt (hs : List HD) (a : Int) : Int := firstFrom a hs 0
theorem firstFrom_none (a : Int) : ∀ (l : List HD) (k : Nat), (∀ x ∈ l, ¬ x.at_ = a) → firstFrom a l k = -1
  | [], _, _ => rfl
  | x :: r, k, h => by
    rw [firstFrom, if_neg (h x (by simp)), firstFrom_none a r (k + 1) (fun y hy => h y (by simp [hy]))]
theorem firstFrom_some (a : Int) : ∀ (l : List HD) (k j : Nat) (x : HD), l[j]? = some x → x.at_ = a → (∀ i y, i < j → l[i]? = some y → ¬ y.at_ = a) → firstFrom a l k = ((k + j : Nat) : Int)
  | [], k, j, x, h, _, _ => by simp at h
  | y :: r, k, 0, x, h, hx, _ => by
    simp at h
    subst h
    rw [firstFrom, if_pos hx]; rfl
  | y :: r, k, j + 1, x, h, hx, hn => by
    rw [firstFrom, if_neg (hn 0 y (by omega) rfl), firstFrom_some a r (k + 1) j x (by simpa using h) hx (fun i z hi hz => hn (i + 1) z (by omega) (by simpa using hz))]
    congr 1; omega
theorem first_none {hs : List HD} {a : Int} {n : Nat} (hl : hs.length = n) (h : ∀ j x, j < n → hs[j]? = some x → ¬ x.at_ = a) : firstAt hs a = -1 :=
  firstFrom_none a hs 0 (fun x hx => by
    obtain ⟨j, hj, rfl⟩ := List.getElem_of_mem hx
    exact h j _ (by omega) (List.getElem?_eq_getElem hj))
theorem first_some {hs : List HD} {a : Int} {k : Nat} {x : HD} (hk : hs[k]? = some x) (hx : x.at_ = a) (h : ∀ j y, j < k → hs[j]? = some y → ¬ y.at_ = a) : firstAt hs a = (k : Int) := by
  have := firstFrom_some a hs 0 k x hk hx h
  simpa [firstAt] using this
def FRel (hs : List HD) (a : Int) (b B : Nat) (W : World) (A : Option Addr) (n : Nat) (i : Value) (wr : World) : Prop :=
  ∃ k : Nat, k ≤ n ∧ i = .int .i64 k ∧ (∀ j x, j < k → hs[j]? = some x → ¬ x.at_ = a) ∧ HintsAt wr B A n hs ∧ wr.cell? ⟨b, 0, none⟩ = some (.int .i64 a) ∧ Below W.heap.size W wr
set_option maxHeartbeats 1000000 in
theorem find_at (a : Int) (b B : Nat) (A : Option Addr) (n c : Nat) (hs : List HD) (w : World) (hh : HintsAt w B A n hs) (hc : n ≤ c) (hm : n < 9223372036854775808) (hcb : w.cell? ⟨b, 0, none⟩ = some (.int .i64 a)) :
    Calls Try.prog 21 #[.slice A n c, .func (Fn.func 22) #[] #[.pointer (some ⟨b, 0, none⟩)]] w fun e w' => e = .returned (.int .i64 (firstAt hs a)) ∧ Below w.heap.size w w' := by
  have hl := hide hh.1
  have HH := hide hh
  clear hh
  go_enter Try.func21, Try.ntmps21
  go_wp2
  go_loopw [8] (fun i wr => FRel hs a b B w A n i wr) (fun i _ => n - (intOf i).toNat)
  case atStart => exact ⟨0, by omega, rfl, by omega, HH.out, hcb, Below.refl _ _⟩
  case round =>
    obtain ⟨k, hk, rfl, hno, hat, hcr, hbel⟩ := hrel
    have HB := hide hbel
    have HN := hide hno
    clear hbel hno
    by_cases hlt : k < n
    · obtain ⟨ad, x, rfl, hab, hx, hxw, hcell⟩ := hat.at_ hlt
      have hv : wr.cell? (ad.add (k * 23)) = some (.int .i64 x.at_) := by
        have := hcell 0 _ rfl
        simpa [add_of_add] using this
      have HX := hide hx
      have HAT := hide hat
      clear hx hat hcell hxw
      go_wp2_with fail
      refine (cl_at (ad.add (k * 23)) x.at_ a b _ hv hcr).mono ?_
      rintro e w' ⟨rfl, m, rfl⟩
      by_cases hxa : x.at_ = a
      · have hb : (x.at_ == a) = true := by simpa using hxa
        have HXA := hide hxa
        clear hxa
        go_wp2
        go_ret
        exact ⟨ret_i (first_some HX.out HXA.out HN.out).symm, below_drewN HB.out _⟩
      · have hb : (x.at_ == a) = false := by simpa using hxa
        have HXA := hide hxa
        clear hxa
        go_wp2
        go_roundw
        case measure => simp [intOf]; omega
        case rel =>
          refine ⟨k + 1, by omega, by go_num, fun j y hj hy => ?_, HAT.out, hcr, below_drewN HB.out _⟩
          rcases Nat.lt_or_ge j k with h | h
          · exact HN.out j y h hy
          · obtain rfl : j = k := by omega
            have := HX.out
            rw [hy] at this
            obtain rfl := Option.some.inj this
            exact HXA.out
    · obtain rfl : k = n := by omega
      clear hk hlt
      go_wp2
      go_ret
      exact ⟨ret_i (first_none hl.out HN.out).symm, HB.out⟩
def blkC (hs : List HD) (s a : Int) : Int := if chkB s hs then (if 0 ≤ firstAt hs a then firstAt hs a else 0) else 0
def blkO (hs : List HD) (s a : Int) : Bool := chkB s hs && decide (0 ≤ firstAt hs a)
theorem firstFrom_bd (a : Int) : ∀ (l : List HD) (k : Nat), firstFrom a l k = -1 ∨ ((k : Int) ≤ firstFrom a l k ∧ firstFrom a l k < k + l.length)
  | [], k => .inl rfl
  | x :: r, k => by
    rw [firstFrom]
    by_cases h : x.at_ = a
    · rw [if_pos h]; right; simp; omega
    · rw [if_neg h]
      rcases firstFrom_bd a r (k + 1) with e | ⟨e1, e2⟩
      · exact .inl e
      · right; simp; omega
theorem first_bd (hs : List HD) (a : Int) : -1 ≤ firstAt hs a ∧ firstAt hs a < hs.length := by
  rcases firstFrom_bd a hs 0 with h | ⟨h1, h2⟩
  · unfold firstAt; rw [h]; omega
  · unfold firstAt; omega
theorem HintsAt.up {w w' : World} {B n : Nat} {A : Option Addr} {hs : List HD} (h : HintsAt w B A n hs) (hb : Below B w w') (hz : B ≤ w'.heap.size) : HintsAt w' w'.heap.size A n hs :=
  ⟨h.1, h.2.1, (h.2.2.below hb).more hz⟩
set_option maxHeartbeats 1000000 in
theorem block_any (s a : Int) (A : Option Addr) (n c : Nat) (hs : List HD) (w : World) (hh : HintsAt w w.heap.size A n hs) (hc : n ≤ c) (hm : n < 9223372036854775808) :
    Calls Try.prog 9 #[.agg #[.int .i64 s, .slice A n c], .int .i64 a] w fun e w' => e = .returned (.tuple #[.int .i64 (blkC hs s a), .bool (blkO hs s a)]) ∧ Below w.heap.size w w' := by
  have HH := hide hh
  clear hh
  go_enter Try.func9, Try.ntmps9
  go_wp2_with fail
  have hb0 : Below w.heap.size w ((w.alloc (.cells #[.int .i64 s, .slice A n c] 24)).alloc (.cells #[.int .i64 a] 3)) := ((Below.refl _ _).alloc (Nat.le_refl _) _).alloc (le_alloc _ (Nat.le_refl _)) _
  refine (check_any s A n c hs _ (HH.out.up hb0 hb0.size) hc hm).mono ?_
  rintro e w1 ⟨rfl, hb1⟩
  have c0 : w1.cell? ⟨w.heap.size, 0, none⟩ = some (.int .i64 s) := by rw [hb1.cell (by simp; omega)]; simp
  have c1 : w1.cell? ⟨w.heap.size, 1, none⟩ = some (.slice A n c) := by rw [hb1.cell (by simp; omega)]; simp
  have c2 : w1.cell? ⟨w.heap.size + 1, 0, none⟩ = some (.int .i64 a) := by rw [hb1.cell (by simp)]; simp
  have HB1 := hide (hb0.trans (hb1.mono hb0.size))
  clear hb0 hb1
  cases hck : chkB s hs
  · go_wp2
    exact bodyPost_ret (v := .tuple #[.int .i64 0, .bool false]) (by simp [results, Try.results9, go_sem]) rfl ⟨by simp [blkC, blkO, hck], HB1.out⟩
  · have HCK := hide hck
    clear hck
    have HF := hide (first_bd hs a)
    have hle := HB1.out.size
    go_wp2_with fail
    refine (find_at a (w.heap.size + 1) w.heap.size A n c hs _ (HH.out.below HB1.out) hc hm c2).mono ?_
    rintro e w2 ⟨rfl, hb2⟩
    obtain ⟨f0, f1⟩ := HF.out
    have HB2 := hide (HB1.out.trans (hb2.mono hle))
    clear hb2
    generalize hf : firstAt hs a = F at *
    have HFF := hide hf
    clear hf
    by_cases hF : 0 ≤ F
    · go_wp2
      refine bodyPost_ret (v := .tuple #[.int .i64 F, .bool true]) (by simp [results, Try.results9, go_sem]) rfl ⟨by simp [blkC, blkO, HCK.out, HFF.out, hF], HB2.out⟩
    · have hF' : ¬ 0 ≤ F := by omega
      go_wp2
      refine bodyPost_ret (v := .tuple #[.int .i64 0, .bool false]) ?_ rfl ⟨?_, HB2.out⟩
      · have hF2 : decide (0 ≤ F) = false := by simpa using hF
        simp [results, Try.results9, go_sem]
        omega
      · have hF2 : decide (0 ≤ F) = false := by simpa using hF
        simp only [blkC, blkO, HCK.out, HFF.out, if_neg (Int.not_le.2 hF'), if_true, Bool.true_and, hF2]
end Go.Proofs.Ytmnokkomhgpmmaa
