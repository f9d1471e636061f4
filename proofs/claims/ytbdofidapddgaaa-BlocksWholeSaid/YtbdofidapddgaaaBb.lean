/-
  Two rows of numbers, the same? Is a number in a row? latheref04.Ints, slices.Equal, slices.Index, slices.Contains. Conditions: those written in each statement.
-/
import Derived.Test.YtbdofidapddgaaaBa
import Derived.Test.YtbdofidapddgaaaIb
import Derived.BigQuiet
namespace Go.Proofs.Ytbdofidapddgaaa
open Go.RowKit
set_option linter.unusedVariables false
set_option linter.unusedSimpArgs false
def sameI (a b : List Int) : Bool := decide (a = b)
theorem sameI_no {a b : List Int} (h : a ≠ b) : sameI a b = false := by unfold sameI; simpa using h
theorem sameI_len {a b : List Int} (h : a.length ≠ b.length) : sameI a b = false := sameI_no fun e => h (by rw [e])
theorem sameI_at {a b : List Int} {k : Nat} {x y : Int} (hx : a[k]? = some x) (hy : b[k]? = some y) (h : x ≠ y) : sameI a b = false := sameI_no fun e => by
  subst e
  rw [hx] at hy
  exact h (Option.some.inj hy)
theorem sameI_all {a b : List Int} (hl : a.length = b.length) (h : ∀ j, j < a.length → a[j]? = b[j]?) : sameI a b = true := by
  unfold sameI
  rw [decide_eq_true_iff]
  refine List.ext_getElem hl fun i h1 h2 => ?_
  have := h i h1
  rw [List.getElem?_eq_getElem h1, List.getElem?_eq_getElem h2] at this
  exact Option.some.inj this
/-- A bool comes back; the world drew. -/
def DrP (b : Bool) (w : World) (e : Ending) (w' : World) : Prop := e = .returned (.bool b) ∧ ∃ d, w' = w.drewN d
theorem dr_more {w wr : World} (h : ∃ d, wr = w.drewN d) (k : Nat) : ∃ d, wr.drewN k = w.drewN d := by
  obtain ⟨d, rfl⟩ := h
  exact ⟨d + k, by rw [World.drewN_drewN]⟩
theorem dr_cell {w wr : World} (h : ∃ d, wr = w.drewN d) (p : Addr) : wr.cell? p = w.cell? p := by
  obtain ⟨d, rfl⟩ := h
  rfl
theorem dr_below {w wr : World} (h : ∃ d, wr = w.drewN d) (B : Nat) : Below B w wr := by
  obtain ⟨d, rfl⟩ := h
  exact below_drewN (Below.refl _ _) d
theorem ret_bb {a b : Bool} (h : a = b) : Ending.returned (.bool a) = .returned (.bool b) := by rw [h]
theorem ret_ii {k : IntKind} {a b : Int} (h : a = b) : Ending.returned (.int k a) = .returned (.int k b) := by rw [h]
set_option maxRecDepth 100000 in
set_option maxHeartbeats 2000000 in
theorem dints_any (A A2 : Option Addr) (n c n2 c2 B : Nat) (a b : List Int) (w : World) (hh : NxAt w B (.slice A n c) a) (hh2 : NxAt w B (.slice A2 n2 c2) b) :
    Calls Try.prog 25 #[.slice A n c, .slice A2 n2 c2] w (DrP (sameI a b) w) := by
  have HA := hide hh
  have HB := hide hh2
  obtain ⟨ha, _, hm⟩ := hh.len
  obtain ⟨hb, _, hm2⟩ := hh2.len
  have HLA := hide ha
  have HLB := hide hb
  clear hh hh2 ha hb
  cases hne : ((n : Int) != (n2 : Int))
  · obtain rfl : n = n2 := by simp at hne; omega
    clear hne
    go_enter Try.func25, Try.ntmps25
    go_wp2
    go_loopw [5] (fun i wr => ∃ k : Nat, k ≤ n ∧ i = .int .i64 k ∧ Hid (∀ j, j < k → a[j]? = b[j]?) ∧ Hid (∃ d, wr = w.drewN d)) (fun i _ => n - (intOf i).toNat)
    case atStart => exact ⟨0, by omega, rfl, fun j h => by omega, ⟨0, rfl⟩⟩
    case round =>
      obtain ⟨k, hk, rfl, HT, HD⟩ := hrel
      by_cases hlt : k < n
      · obtain ⟨ad, x, rfl, _, hx, hxi, hcx⟩ := HA.out.at_ hlt
        obtain ⟨ad2, y, rfl, _, hy, hyi, hcy⟩ := HB.out.at_ hlt
        have HX := hide hx
        have HY := hide hy
        have e0 := (dr_cell HD.out (ad.add k)).trans hcx
        have e1 := (dr_cell HD.out (ad2.add k)).trans hcy
        have HDm := fun m => hide (dr_more HD.out m)
        clear hx hy hxi hyi hcx hcy
        cases hq : (x != y)
        · have HQ := hide (show x = y by simpa using hq)
          go_wp2_with fail
          go_quiet (fail)
          go_wp2
          go_roundw
          case measure => simp [intOf]; omega
          case rel =>
            refine ⟨k + 1, by omega, by go_num, fun j hj => ?_, (HDm _).out⟩
            rcases Nat.lt_or_ge j k with h | h
            · exact HT.out j h
            · obtain rfl : j = k := by omega
              rw [HX.out, HY.out, HQ.out]
        · have HQ := hide (sameI_at HX.out HY.out (show x ≠ y by simpa using hq))
          go_wp2_with fail
          go_quiet (fail)
          go_wp2
          go_ret
          exact ⟨ret_bb HQ.out.symm, (HDm _).out⟩
      · obtain rfl : k = n := by omega
        have HQ := hide (sameI_all (a := a) (b := b) (by rw [HLA.out, HLB.out]) (by rw [HLA.out]; exact HT.out))
        go_wp2
        go_ret
        exact ⟨ret_bb HQ.out.symm, HD.out⟩
  · have HQ := hide (sameI_len (a := a) (b := b) (by rw [HLA.out, HLB.out]; simp at hne; omega))
    go_enter Try.func25, Try.ntmps25
    go_wp2
    go_ret
    exact ⟨ret_bb HQ.out.symm, 0, rfl⟩
set_option maxRecDepth 100000 in
set_option maxHeartbeats 2000000 in
theorem equal_any (A A2 : Option Addr) (n c n2 c2 B : Nat) (a b : List Int) (w : World) (hh : NxAt w B (.slice A n c) a) (hh2 : NxAt w B (.slice A2 n2 c2) b) :
    Calls Try.prog 36 #[.slice A n c, .slice A2 n2 c2] w (DrP (sameI a b) w) := by
  have HA := hide hh
  have HB := hide hh2
  obtain ⟨ha, _, hm⟩ := hh.len
  obtain ⟨hb, _, hm2⟩ := hh2.len
  have HLA := hide ha
  have HLB := hide hb
  clear hh hh2 ha hb
  cases hne : ((n : Int) != (n2 : Int))
  · obtain rfl : n = n2 := by simp at hne; omega
    clear hne
    go_enter Try.func36, Try.ntmps36
    go_wp2
    go_loopw [13] (fun i wr => ∃ k : Nat, k ≤ n ∧ i = .int .i64 k ∧ Hid (∀ j, j < k → a[j]? = b[j]?) ∧ Hid (∃ d, wr = w.drewN d)) (fun i _ => n - (intOf i).toNat)
    case atStart => exact ⟨0, by omega, rfl, fun j h => by omega, ⟨0, rfl⟩⟩
    case round =>
      obtain ⟨k, hk, rfl, HT, HD⟩ := hrel
      by_cases hlt : k < n
      · obtain ⟨ad, x, rfl, _, hx, hxi, hcx⟩ := HA.out.at_ hlt
        obtain ⟨ad2, y, rfl, _, hy, hyi, hcy⟩ := HB.out.at_ hlt
        have HX := hide hx
        have HY := hide hy
        have e0 := (dr_cell HD.out (ad.add k)).trans hcx
        have e1 := (dr_cell HD.out (ad2.add k)).trans hcy
        have HDm := fun m => hide (dr_more HD.out m)
        clear hx hy hxi hyi hcx hcy
        cases hq : (x != y)
        · have HQ := hide (show x = y by simpa using hq)
          go_wp2_with fail
          go_quiet (fail)
          go_wp2
          go_roundw
          case measure => simp [intOf]; omega
          case rel =>
            refine ⟨k + 1, by omega, by go_num, fun j hj => ?_, (HDm _).out⟩
            rcases Nat.lt_or_ge j k with h | h
            · exact HT.out j h
            · obtain rfl : j = k := by omega
              rw [HX.out, HY.out, HQ.out]
        · have HQ := hide (sameI_at HX.out HY.out (show x ≠ y by simpa using hq))
          go_wp2_with fail
          go_quiet (fail)
          go_wp2
          go_ret
          exact ⟨ret_bb HQ.out.symm, (HDm _).out⟩
      · obtain rfl : k = n := by omega
        have HQ := hide (sameI_all (a := a) (b := b) (by rw [HLA.out, HLB.out]) (by rw [HLA.out]; exact HT.out))
        go_wp2
        go_ret
        exact ⟨ret_bb HQ.out.symm, HD.out⟩
  · have HQ := hide (sameI_len (a := a) (b := b) (by rw [HLA.out, HLB.out]; simp at hne; omega))
    go_enter Try.func36, Try.ntmps36
    go_wp2
    go_ret
    exact ⟨ret_bb HQ.out.symm, 0, rfl⟩
/-- Where a number is first. -/
def idxI (l : List Int) (x : Int) : Int := if x ∈ l then l.idxOf x else -1
theorem idx_at {l : List Int} {k : Nat} {x : Int} (hx : l[k]? = some x) (h : ∀ j y, j < k → l[j]? = some y → y ≠ x) : idxI l x = k := by
  have hm : x ∈ l := List.mem_of_getElem? hx
  unfold idxI
  rw [if_pos hm]
  have h1 : l.idxOf x < l.length := List.idxOf_lt_length_of_mem hm
  have h2 : l[l.idxOf x] = x := List.getElem_idxOf h1
  have h3 : ¬ l.idxOf x < k := fun hlt => h _ _ hlt (List.getElem?_eq_getElem h1) h2
  obtain ⟨hkl, hke⟩ := List.getElem?_eq_some_iff.1 hx
  have h4 : ¬ k < l.idxOf x := fun hlt => by
    have := List.not_of_lt_findIdx (p := (· == x)) (xs := l) hlt
    simp at this
    exact this hke
  omega
theorem idx_no {l : List Int} {x : Int} (h : ∀ j y, j < l.length → l[j]? = some y → y ≠ x) : idxI l x = -1 := by
  unfold idxI
  rw [if_neg]
  intro hm
  obtain ⟨j, hj, e⟩ := List.getElem_of_mem hm
  exact h j _ hj (List.getElem?_eq_getElem hj) e
theorem idx_ge {l : List Int} {x : Int} : decide (0 ≤ idxI l x) = decide (x ∈ l) := by
  unfold idxI
  split
  · rename_i h; simp [h]
  · rename_i h; simp [h]
set_option maxRecDepth 100000 in
set_option maxHeartbeats 2000000 in
theorem index_any (A : Option Addr) (n c B : Nat) (a : List Int) (x : Int) (w : World) (hh : NxAt w B (.slice A n c) a) :
    Calls Try.prog 42 #[.slice A n c, .int .i64 x] w fun e w' => e = .returned (.int .i64 (idxI a x)) ∧ w = w' := by
  have HA := hide hh
  obtain ⟨ha, _, hm⟩ := hh.len
  have HLA := hide ha
  clear hh ha
  go_enter Try.func42, Try.ntmps42
  go_wp2
  go_loop [8] (fun i => ∃ k : Nat, k ≤ n ∧ i = .int .i64 k ∧ Hid (∀ j y, j < k → a[j]? = some y → y ≠ x)) (fun i => n - (intOf i).toNat)
  case atStart => exact ⟨0, by omega, rfl, fun j y h => by omega⟩
  case round =>
    obtain ⟨k, hk, rfl, HT⟩ := hrel
    by_cases hlt : k < n
    · obtain ⟨ad, y, rfl, _, hy, hyi, hcy⟩ := HA.out.at_ hlt
      have HY := hide hy
      clear hy hyi
      cases hq : (x == y)
      · have HQ := hide (show y ≠ x by intro e; simp [e] at hq)
        go_wp2
        go_round
        case measure => simp [intOf]; omega
        case rel =>
          refine ⟨k + 1, by omega, by go_num, fun j z hj hz => ?_⟩
          rcases Nat.lt_or_ge j k with h | h
          · exact HT.out j z h hz
          · obtain rfl : j = k := by omega
            rw [HY.out] at hz
            exact Option.some.inj hz ▸ HQ.out
      · have HQ := hide (show y = x by simp at hq; omega)
        have HI := hide (idx_at (x := x) (by rw [HY.out, HQ.out]) HT.out)
        go_wp2
        go_ret
        exact ⟨ret_ii HI.out.symm, rfl⟩
    · obtain rfl : k = n := by omega
      have HI := hide (idx_no (x := x) (by rw [HLA.out]; exact HT.out))
      go_wp2
      go_ret
      exact ⟨ret_ii HI.out.symm, rfl⟩
theorem contains_any (A : Option Addr) (n c B : Nat) (a : List Int) (x : Int) (w : World) (hh : NxAt w B (.slice A n c) a) :
    Calls Try.prog 38 #[.slice A n c, .int .i64 x] w fun e w' => e = .returned (.bool (decide (x ∈ a))) ∧ w = w' := by
  have HA := hide hh
  clear hh
  have HI := hide (idx_ge (l := a) (x := x))
  go_enter Try.func38, Try.ntmps38
  go_wp2_with fail
  refine (index_any A n c B a x _ HA.out).mono ?_
  rintro e w' ⟨rfl, rfl⟩
  go_wp2
  go_ret
  exact ⟨ret_bb HI.out, rfl⟩
end Go.Proofs.Ytbdofidapddgaaa
