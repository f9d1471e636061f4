/-
  Plain words on hints read from bytes: there and back. Conditions: those written in each statement.
-/
import Derived.Test.YtmnokkomhgpmmaaWj
namespace Go.Proofs.Ytmnokkomhgpmmaa
open Go.RowKit
set_option linter.unusedVariables false
set_option linter.unusedSimpArgs false
theorem wrap_i8_ (x : Int) : IntKind.i8.wrap x = (x + 128) % 256 - 128 := by
  simp [IntKind.wrap, IntKind.signed, IntKind.bits]
  try split
  all_goals try omega
def i8 (x : Int) : Int := IntKind.i8.wrap x
theorem i8_bd (x : Int) : I8 (i8 x) := by unfold i8 I8; rw [wrap_i8_]; omega
theorem i8_of {p : Int} (h : I8 p) : i8 (p % 256) = p := by unfold i8; unfold I8 at h; rw [wrap_i8_]; omega
theorem of_i8 {x : Int} (h : 0 ≤ x ∧ x < 256) : i8 x % 256 = x := by unfold i8; rw [wrap_i8_]; omega
def rdPl : List Int → List (Int × Int)
  | x :: y :: r => (i8 x, i8 y) :: rdPl r
  | _ => []
def rdH (b : List Int) : HD := ⟨getB (b.take 3), rdPl ((b.drop 3).take 22)⟩
def rdHs : Nat → List Int → List HD
  | 0, _ => []
  | n + 1, b => rdH b :: rdHs n (b.drop 25)
theorem rdPl_plB : ∀ (l : List (Int × Int)), (∀ p ∈ l, I8 p.1 ∧ I8 p.2) → rdPl (plB l) = l
  | [], _ => rfl
  | p :: r, h => by
    have hp := h p (by simp)
    have ih := rdPl_plB r (fun q hq => h q (by simp [hq]))
    show rdPl (p.1 % 256 :: p.2 % 256 :: plB r) = _
    rw [rdPl, ih, i8_of hp.1, i8_of hp.2]
theorem plB_rdPl : ∀ (l : List Int), IsBytes l → l.length % 2 = 0 → plB (rdPl l) = l
  | [], _, _ => rfl
  | [x], _, h => by simp at h
  | x :: y :: r, hb, h => by
    have ih := plB_rdPl r (fun q hq => hb q (by simp [hq])) (by simp at h; omega)
    show i8 x % 256 :: i8 y % 256 :: plB (rdPl r) = _
    rw [ih, of_i8 (hb x (by simp)), of_i8 (hb y (by simp))]
theorem rdPl_len : ∀ (l : List Int), l.length % 2 = 0 → 2 * (rdPl l).length = l.length
  | [], _ => rfl
  | [x], h => by simp at h
  | x :: y :: r, h => by
    have ih := rdPl_len r (by simp at h; omega)
    simp only [rdPl, List.length_cons]
    omega
theorem rdPl_bd : ∀ (l : List Int), ∀ p ∈ rdPl l, I8 p.1 ∧ I8 p.2
  | [], p, h => by simp [rdPl] at h
  | [x], p, h => by simp [rdPl] at h
  | x :: y :: r, p, h => by
    simp only [rdPl, List.mem_cons] at h
    rcases h with rfl | h
    · exact ⟨i8_bd _, i8_bd _⟩
    · exact rdPl_bd r p h
theorem rdPl_at : ∀ (l : List Int) (j : Nat) (x y : Int), l[2 * j]? = some x → l[2 * j + 1]? = some y → (rdPl l)[j]? = some (i8 x, i8 y)
  | [], j, x, y, h, _ => by simp at h
  | [a], j, x, y, _, h => by simp at h
  | a :: b :: r, 0, x, y, h1, h2 => by simp at h1 h2; subst h1 h2; rfl
  | a :: b :: r, j + 1, x, y, h1, h2 => by
    simp only [rdPl, List.getElem?_cons_succ]
    exact rdPl_at r j x y (by simpa [Nat.mul_add] using h1) (by simpa [Nat.mul_add] using h2)
theorem putB_cons (v : Int) (k : Nat) (hv : 0 ≤ v) : putB v (k + 1) = v % 256 :: putB (v / 256) k := by
  unfold putB
  rw [List.range_succ_eq_map, List.map_cons, List.map_map]
  congr 1
  · simp [byI]
  · refine List.map_congr_left fun i _ => ?_
    simp only [Function.comp, byI]
    rw [Int.ediv_ediv_of_nonneg (by omega), show (2 : Int) ^ (8 * (i + 1)) = 256 * 2 ^ (8 * i) by rw [Nat.mul_succ, Int.pow_add, Int.mul_comm]; rfl]
theorem putB_getB : ∀ (l : List Int), IsBytes l → putB (getB l) l.length = l
  | [], _ => rfl
  | x :: r, h => by
    have hx := h x (by simp)
    have hr := getB_bd r (fun y hy => h y (by simp [hy]))
    have ih := putB_getB r (fun y hy => h y (by simp [hy]))
    rw [List.length_cons, putB_cons _ _ (getB_bd (x :: r) h).1, getB]
    rw [show (x + 256 * getB r) % 256 = x by omega, show (x + 256 * getB r) / 256 = getB r by omega, ih]
theorem putB_bytes (v : Int) (k : Nat) : IsBytes (putB v k) := by
  intro x hx
  unfold putB at hx
  obtain ⟨i, _, rfl⟩ := List.mem_map.1 hx
  unfold byI
  omega
theorem putB_len (v : Int) (k : Nat) : (putB v k).length = k := by simp [putB]
theorem getB_putB : ∀ (k : Nat) (v : Int), 0 ≤ v → v < 256 ^ k → getB (putB v k) = v
  | 0, v, h0, h1 => by simp at h1; simp [putB, getB]; omega
  | k + 1, v, h0, h1 => by
    rw [putB_cons v k h0, getB, getB_putB k (v / 256) (by omega) (by rw [Int.pow_succ] at h1; exact Int.ediv_lt_of_lt_mul (by omega) h1)]
    omega
theorem hdB_len {x : HD} (hw : x.wf) : (hdB x).length = 25 := by
  unfold hdB
  rw [List.length_append, putB_len, plB_len, hw.2.1]
theorem rdH_hdB {x : HD} (hw : x.wf) (h0 : 0 ≤ x.at_) (h1 : x.at_ < 16384) (r : List Int) : rdH (hdB x ++ r) = x := by
  have hl : (plB x.pl).length = 22 := by rw [plB_len, hw.2.1]
  unfold rdH hdB
  rw [List.append_assoc, List.take_append_of_le_length (by rw [putB_len]; omega), List.take_of_length_le (by rw [putB_len]; omega), getB_putB 3 x.at_ h0 (by omega)]
  rw [show (putB x.at_ 3 ++ (plB x.pl ++ r)).drop 3 = plB x.pl ++ r from by rw [List.drop_append, List.drop_of_length_le (by rw [putB_len]; omega), putB_len]; simp]
  rw [List.take_append_of_le_length (by omega), List.take_of_length_le (by omega), rdPl_plB _ hw.2.2]
theorem rdHs_hsB : ∀ (hs : List HD), (∀ x ∈ hs, x.wf ∧ 0 ≤ x.at_ ∧ x.at_ < 16384) → rdHs hs.length (hs.flatMap hdB) = hs
  | [], _ => rfl
  | x :: t, h => by
    have hx := h x (by simp)
    rw [List.length_cons, rdHs, List.flatMap_cons, rdH_hdB hx.1 hx.2.1 hx.2.2, List.drop_append, List.drop_of_length_le (by rw [hdB_len hx.1]; omega), hdB_len hx.1]
    simp only [Nat.sub_self, List.drop_zero, List.nil_append]
    rw [rdHs_hsB t (fun y hy => h y (by simp [hy]))]
theorem hdB_rdH {b : List Int} (hb : IsBytes b) (hl : 25 ≤ b.length) : hdB (rdH b) = b.take 25 := by
  have h3 := putB_getB (b.take 3) (fun y hy => hb y (List.mem_of_mem_take hy))
  have hl3 : (b.take 3).length = 3 := by rw [List.length_take]; omega
  rw [hl3] at h3
  unfold hdB rdH
  dsimp only
  rw [h3, plB_rdPl _ (fun y hy => hb y (List.mem_of_mem_drop (List.mem_of_mem_take hy))) (by rw [List.length_take, List.length_drop, Nat.min_eq_left (by omega)])]
  rw [show (25 : Nat) = 3 + 22 from rfl, List.take_add]
theorem hsB_rdHs : ∀ (n : Nat) (b : List Int), IsBytes b → b.length = 25 * n → (rdHs n b).flatMap hdB = b
  | 0, b, _, hl => by simp at hl; subst hl; rfl
  | n + 1, b, hb, hl => by
    rw [rdHs, List.flatMap_cons, hdB_rdH hb (by omega), hsB_rdHs n (b.drop 25) (fun y hy => hb y (List.mem_of_mem_drop hy)) (by rw [List.length_drop]; omega), List.take_append_drop]
theorem rdHs_len : ∀ (n : Nat) (b : List Int), (rdHs n b).length = n
  | 0, _ => rfl
  | n + 1, b => by rw [rdHs, List.length_cons, rdHs_len n]
end Go.Proofs.Ytmnokkomhgpmmaa
