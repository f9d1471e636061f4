/-
  The law's own wakes, and contracts of Mem and Regs for every input. Conditions: none.
-/
import Derived.Test.YtladeiighbbioaaWe
namespace Go.Proofs.Ytladeiighbbioaa
open Go.RowKit
theorem conv (w : World) {n c : Nat} {A : Option Addr} {l : List Int} (h : Reads w w.heap.size 1 A n (l.map (Value.int .u8))) :
    ∃ s, Hid (s = strOfNums l) ∧ (convert 23 9 (.slice A n c)).run Try.prog w = .ok (.string s) w :=
  conv_name w _ _ 5 Try.underlying23 Try.underlying5 Try.underlying9 h
set_option maxHeartbeats 400000 in
theorem wakes_any (w : World) : Calls Try.prog 11 #[] w fun e w' => e = .returned (.bool true) ∧ Below w.heap.size w w' := by
  go_enter Try.func11, Try.ntmps11
  go_wp2_with fail
  refine (rex_yes true 9 3 _ (by decide) (by decide)).mono ?_
  rintro e w' ⟨rfl, rfl⟩
  go_wp2_with fail
  refine (mem_yes 1 4 16 _ (by decide)).mono ?_
  rintro e w1 ⟨A, c, rfl, hc, hr, hb⟩
  rw [show rexB true 9 3 = 76 from by decide]
  obtain ⟨s, HS, hcv⟩ := conv (c := c) w1 hr
  go_wp2
  go_ret
  have hs : (s.toList == [140, 36, 16, 0, 0, 0]) = true := by rw [HS.out, Lib.toList_data]; decide +kernel
  exact ⟨by rw [← hs]; rfl, hb⟩
def memE (r a d : Int) : Int := if memOk r a d then 0 else 2
def memL (r a d : Int) : List Int := if memOk r a d then memB r a d else []
def memK (r a d : Int) : Nat := if memOk r a d then memN a else 0
theorem mem_all (r a d : Int) (w : World) : Calls Try.prog 9 #[.int .i8 r, .int .i8 a, .int .i64 d] w (GivesBytes w (memK r a d) (memL r a d) (memE r a d)) := by
  unfold memK memL memE
  cases h : memOk r a d
  · exact (mem_no r a d w h).mono fun e w' ⟨he, hb⟩ => ⟨none, 0, he, Nat.le_refl _, Reads.none_, hb⟩
  · exact mem_yes r a d w h
theorem rmem_all (r a d : Int) (w : World) : Calls Try.prog 16 #[.int .i8 r, .int .i8 a, .int .i64 d] w (GivesBytes w (memK r a d) (memL r a d) (memE r a d)) := by
  unfold memK memL memE
  cases h : memOk r a d
  · exact (rmem_no r a d w h).mono fun e w' ⟨he, hb⟩ => ⟨none, 0, he, Nat.le_refl _, Reads.none_, hb⟩
  · exact rmem_yes r a d w h
def regOk (r a : Int) : Bool := regB r && regB a
def regE (r a : Int) : Int := if regOk r a then 0 else 2
def regL (r a : Int) : List Int := if regOk r a then [lo 192 r a] else []
def regK (r a : Int) : Nat := if regOk r a then 1 else 0
theorem regs_all (r a : Int) (w : World) : Calls Try.prog 10 #[.int .i8 r, .int .i8 a] w (GivesBytes w (regK r a) (regL r a) (regE r a)) := by
  unfold regK regL regE
  cases h : regOk r a
  · exact (regs_no r a w h).mono fun e w' ⟨he, hw⟩ => ⟨none, 0, he, Nat.le_refl _, Reads.none_, by subst hw; exact Below.refl _ _⟩
  · obtain ⟨h1, h2⟩ : regB r = true ∧ regB a = true := by simpa [regOk] using h
    exact regs_yes r a w h1 h2
theorem rregs_all (r a : Int) (w : World) : Calls Try.prog 15 #[.int .i8 r, .int .i8 a] w (GivesBytes w (regK r a) (regL r a) (regE r a)) := by
  unfold regK regL regE
  cases h : regOk r a
  · exact (rregs_no r a w h).mono fun e w' ⟨he, hw⟩ => ⟨none, 0, he, Nat.le_refl _, Reads.none_, by subst hw; exact Below.refl _ _⟩
  · obtain ⟨h1, h2⟩ : regB r = true ∧ regB a = true := by simpa [regOk] using h
    exact rregs_yes r a w h1 h2
def numE (v n : Int) : Int := if numOk v n then 0 else 2
def numL (v n : Int) : List Int := if numOk v n then numB v n.toNat else []
def numK (v n : Int) : Nat := if numOk v n then n.toNat else 0
theorem num_all (v n : Int) (w : World) : Calls Try.prog 17 #[.int .i64 v, .int .i64 n] w (GivesBytes w (numK v n) (numL v n) (numE v n)) := by
  unfold numK numL numE
  cases h : numOk v n
  · exact (num_no v n w h).mono fun e w' ⟨he, hw⟩ => ⟨none, 0, he, Nat.le_refl _, Reads.none_, by subst hw; exact Below.refl _ _⟩
  · exact num_yes v n w h
theorem rnum_all (v n : Int) (w : World) : Calls Try.prog 18 #[.int .i64 v, .int .i64 n] w (GivesBytes w (numK v n) (numL v n) (numE v n)) := by
  unfold numK numL numE
  cases h : numOk v n
  · exact (rnum_no v n w h).mono fun e w' ⟨he, hw⟩ => ⟨none, 0, he, Nat.le_refl _, Reads.none_, by subst hw; exact Below.refl _ _⟩
  · exact rnum_yes v n w h
def rexE (r a : Int) : Int := if regOk r a then 0 else 2
def rexV (wide : Bool) (r a : Int) : Int := if regOk r a then rexB wide r a else 0
theorem rex_all (wide : Bool) (r a : Int) (w : World) : Calls Try.prog 13 #[.bool wide, .int .i8 r, .int .i8 a] w fun e w' => e = .returned (.tuple #[.int .u8 (rexV wide r a), .int .i64 (rexE r a)]) ∧ w = w' := by
  unfold rexV rexE
  cases h : regOk r a
  · exact rex_no wide r a w h
  · obtain ⟨h1, h2⟩ : regB r = true ∧ regB a = true := by simpa [regOk] using h
    exact rex_yes wide r a w h1 h2
theorem rrex_all (wide : Bool) (r a : Int) (w : World) : Calls Try.prog 14 #[.bool wide, .int .i8 r, .int .i8 a] w fun e w' => e = .returned (.tuple #[.int .u8 (rexV wide r a), .int .i64 (rexE r a)]) ∧ w = w' := by
  unfold rexV rexE
  cases h : regOk r a
  · exact rrex_no wide r a w h
  · obtain ⟨h1, h2⟩ : regB r = true ∧ regB a = true := by simpa [regOk] using h
    exact rrex_yes wide r a w h1 h2
theorem isB_numB (v : Int) (n : Nat) : IsBytes (numB v n) := by
  intro x hx
  obtain ⟨i, _, rfl⟩ := List.mem_map.1 hx
  unfold byI
  omega
theorem isB_app {l m : List Int} (hl : IsBytes l) (hm : IsBytes m) : IsBytes (l ++ m) := by
  intro x hx
  rcases List.mem_append.1 hx with h | h
  · exact hl x h
  · exact hm x h
theorem isB_lo (f r a : Int) (h : f = 128 ∨ f = 192) : IsBytes [lo f r a] := by
  intro x hx
  simp at hx
  subst hx
  unfold lo
  omega
theorem isB_memB (r a d : Int) : IsBytes (memB r a d) :=
  isB_app (isB_lo _ _ _ (by omega)) (isB_app (by unfold sibB; split <;> intro x hx <;> simp at hx; omega) (isB_numB _ _))
theorem isB_memL (r a d : Int) : IsBytes (memL r a d) := by
  unfold memL
  split
  · exact isB_memB r a d
  · intro x hx; simp at hx
theorem isB_regL (r a : Int) : IsBytes (regL r a) := by
  unfold regL
  split
  · exact isB_lo _ _ _ (by omega)
  · intro x hx; simp at hx
theorem isB_numL (v n : Int) : IsBytes (numL v n) := by
  unfold numL
  split
  · exact isB_numB _ _
  · intro x hx; simp at hx
end Go.Proofs.Ytladeiighbbioaa
