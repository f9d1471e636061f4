/-
  Which of Op's laws fits: out of Op in plain words. Conditions: those written in each statement.
-/
import Derived.Test.YtepagfkkjlbipaaGreatNm
import Derived.Test.YtepagfkkjlbipaaGreatNp
namespace Go.Proofs.YtepagfkkjlbipaaGreat
open Go.RowKit
set_option linter.unusedVariables false
set_option linter.unusedSimpArgs false
set_option maxRecDepth 100000
theorem entersO3 : EntersB 120 := enters_of Tryz.func120 (by kernel_rfl) rfl
theorem entersO4 : EntersB 122 := enters_of Tryz.func122 (by kernel_rfl) rfl
theorem entersO5 : EntersB 124 := enters_of Tryz.func124 (by kernel_rfl) rfl
theorem entersO6 : EntersB 125 := enters_of Tryz.func125 (by kernel_rfl) rfl
theorem entersO7 : EntersB 127 := enters_of Tryz.func127 (by kernel_rfl) rfl
theorem entersO8 : EntersB 129 := enters_of Tryz.func129 (by kernel_rfl) rfl
theorem entersO9 : EntersB 132 := enters_of Tryz.func132 (by kernel_rfl) rfl
theorem entersO10 : EntersB 133 := enters_of Tryz.func133 (by kernel_rfl) rfl
theorem entersO11 : EntersB 134 := enters_of Tryz.func134 (by kernel_rfl) rfl
theorem entersO12 : EntersB 135 := enters_of Tryz.func135 (by kernel_rfl) rfl
theorem entersO13 : EntersB 136 := enters_of Tryz.func136 (by kernel_rfl) rfl
def lawsL (b5 b6 b7 b8 b9 b15 b17 b18 b19 b20 b21 b22 b23 b24 : Nat) : List Value := [.func (.func 120) #[] #[.pointer (some ⟨b6, 0, none⟩), .pointer (some ⟨b7, 0, none⟩), .pointer (some ⟨b17, 0, none⟩), .pointer (some ⟨b19, 0, none⟩), .pointer (some ⟨b18, 0, none⟩), .pointer (some ⟨b20, 0, none⟩), .pointer (some ⟨b21, 0, none⟩)], .func (.func 122) #[] #[.pointer (some ⟨b6, 0, none⟩), .pointer (some ⟨b5, 0, none⟩), .pointer (some ⟨b7, 0, none⟩), .pointer (some ⟨b8, 0, none⟩)], .func (.func 124) #[] #[.pointer (some ⟨b6, 0, none⟩), .pointer (some ⟨b22, 0, none⟩), .pointer (some ⟨b9, 0, none⟩)], .func (.func 125) #[] #[.pointer (some ⟨b6, 0, none⟩), .pointer (some ⟨b20, 0, none⟩), .pointer (some ⟨b5, 0, none⟩), .pointer (some ⟨b19, 0, none⟩), .pointer (some ⟨b7, 0, none⟩), .pointer (some ⟨b8, 0, none⟩)], .func (.func 127) #[] #[.pointer (some ⟨b23, 0, none⟩), .pointer (some ⟨b18, 0, none⟩), .pointer (some ⟨b20, 0, none⟩), .pointer (some ⟨b9, 0, none⟩), .pointer (some ⟨b8, 0, none⟩), .pointer (some ⟨b5, 0, none⟩), .pointer (some ⟨b6, 0, none⟩), .pointer (some ⟨b7, 0, none⟩)], .func (.func 129) #[] #[.pointer (some ⟨b15, 0, none⟩), .pointer (some ⟨b8, 0, none⟩), .pointer (some ⟨b6, 0, none⟩), .pointer (some ⟨b20, 0, none⟩), .pointer (some ⟨b7, 0, none⟩), .pointer (some ⟨b5, 0, none⟩), .pointer (some ⟨b19, 0, none⟩)], .func (.func 132) #[] #[.pointer (some ⟨b19, 0, none⟩), .pointer (some ⟨b6, 0, none⟩), .pointer (some ⟨b24, 0, none⟩), .pointer (some ⟨b7, 0, none⟩), .pointer (some ⟨b20, 0, none⟩), .pointer (some ⟨b22, 0, none⟩), .pointer (some ⟨b8, 0, none⟩)], .func (.func 133) #[] #[.pointer (some ⟨b20, 0, none⟩), .pointer (some ⟨b19, 0, none⟩), .pointer (some ⟨b6, 0, none⟩), .pointer (some ⟨b21, 0, none⟩)], .func (.func 134) #[] #[.pointer (some ⟨b8, 0, none⟩), .pointer (some ⟨b9, 0, none⟩), .pointer (some ⟨b6, 0, none⟩), .pointer (some ⟨b21, 0, none⟩)], .func (.func 135) #[] #[.pointer (some ⟨b8, 0, none⟩), .pointer (some ⟨b9, 0, none⟩), .pointer (some ⟨b6, 0, none⟩), .pointer (some ⟨b22, 0, none⟩)]]
section
variable {base f g : Nat} {op x a b : Int} {s y : TD} {b5 b6 b7 b8 b9 b15 b17 b18 b19 b20 b21 b22 b23 b24 : Nat} {F : Nat → Prop} {W : World} {p : PS} {r : RS}
theorem or_no {A B C D : Prop} (h : (A ∧ B) ∨ (C ∧ D)) (hn : ¬ C) : B := h.elim And.right fun q => absurd q.1 hn
theorem or_yes {A B C D : Prop} (h : (A ∧ B) ∨ (C ∧ D)) (hn : ¬ A) : D := h.elim (fun q => absurd q.1 hn) And.right
set_option maxHeartbeats 4000000 in
theorem op_choose (hE : OpE g op x a b s.n y.n (s.kind == 0) (y.kind == 0) (turnsB op) (shiftsB op) b5 b6 b7 b8 b9 b15 b17 b18 b19 b20 b21 b22 b23 b24 F W) (hp : PoolAt W base F g p) (hbase : base ≤ W.heap.size) (hIH : OpC base g f) (hs : atP p.T a = s) (hy : atP p.T b = y) (ha : I64 a) (hb : I64 b) (hOk : doOk op x = true) (hr : opL (fun q o u v => opF f q o x u v) f p op x a b = some r) :
  ∃ j, j ≤ 10 ∧ (∀ i v, i < j → (lawsL b5 b6 b7 b8 b9 b15 b17 b18 b19 b20 b21 b22 b23 b24)[i]? = some v → LawNo W v) ∧ (∀ v, (lawsL b5 b6 b7 b8 b9 b15 b17 b18 b19 b20 b21 b22 b23 b24)[j]? = some v → LawYes W (RR base g F W r) v) ∧ (j = 10 → LawPut W (RR base g F W r) (.func (.func 136) #[] #[.pointer (some ⟨b5, 0, none⟩), .pointer (some ⟨b6, 0, none⟩), .pointer (some ⟨b7, 0, none⟩), .pointer (some ⟨b8, 0, none⟩), .pointer (some ⟨b9, 0, none⟩)])) := by
 have hx := (doOk_yes hOk).1
 have hx4 : x = 8 ∨ x = 16 ∨ x = 32 ∨ x = 64 := by omega
 have ho := (doOk_yes hOk).2
 have hsw : s.wf := by rw [← hs]; exact atP_wf hp.rng a
 have hyw : y.wf := by rw [← hy]; exact atP_wf hp.rng b
 have hUa : U64 s.n := hsw.2.2.2.1
 have hUb : U64 y.n := hyw.2.2.2.1
 have hsa : I64 s.a := hsw.2.2.2.2.1
 unfold opL at hr
 rw [hs, hy] at hr
 dsimp only at hr
 have rr : ∀ {W' W2 : World} {n m : Int} (hb : Below W.heap.size W W') (q : RR base g F W' r n m W2), RR base g F W r n m W2 := fun hb q => q.from (PG.of_below hp hb)
 have bs : ∀ {W' : World} (hb : Below W.heap.size W W'), base ≤ W'.heap.size := fun hb => Nat.le_trans hbase hb.size
 have n3 : (s.kind == 0 && y.kind == 0) = false → LawNo W (.func (.func 120) #[] #[.pointer (some ⟨b6, 0, none⟩), .pointer (some ⟨b7, 0, none⟩), .pointer (some ⟨b17, 0, none⟩), .pointer (some ⟨b19, 0, none⟩), .pointer (some ⟨b18, 0, none⟩), .pointer (some ⟨b20, 0, none⟩), .pointer (some ⟨b21, 0, none⟩)]) := fun hf => ⟨_, _, rfl, entersO3, fun W' hb => law3_no (hE.below hb) (hp.below hb) hOk hUa hUb hf⟩
 have n4 : (op == 8) = false → LawNo W (.func (.func 122) #[] #[.pointer (some ⟨b6, 0, none⟩), .pointer (some ⟨b5, 0, none⟩), .pointer (some ⟨b7, 0, none⟩), .pointer (some ⟨b8, 0, none⟩)]) := fun hf => ⟨_, _, rfl, entersO4, fun W' hb => law4_no (hE.below hb) (hp.below hb) hf⟩
 have n5 : (op == 11) = false → LawNo W (.func (.func 124) #[] #[.pointer (some ⟨b6, 0, none⟩), .pointer (some ⟨b22, 0, none⟩), .pointer (some ⟨b9, 0, none⟩)]) := fun hf => ⟨_, _, rfl, entersO5, fun W' hb => law5_no (hE.below hb) (hp.below hb) hf⟩
 have n6 : (op == 1 && y.kind == 0) = false → LawNo W (.func (.func 125) #[] #[.pointer (some ⟨b6, 0, none⟩), .pointer (some ⟨b20, 0, none⟩), .pointer (some ⟨b5, 0, none⟩), .pointer (some ⟨b19, 0, none⟩), .pointer (some ⟨b7, 0, none⟩), .pointer (some ⟨b8, 0, none⟩)]) := fun hf => ⟨_, _, rfl, entersO6, fun W' hb => law6_no (hE.below hb) (hp.below hb) hf⟩
 have n7 : (turnsB op && (s.kind == 0 || (!(y.kind == 0) && decide (b < a)))) = false → LawNo W (.func (.func 127) #[] #[.pointer (some ⟨b23, 0, none⟩), .pointer (some ⟨b18, 0, none⟩), .pointer (some ⟨b20, 0, none⟩), .pointer (some ⟨b9, 0, none⟩), .pointer (some ⟨b8, 0, none⟩), .pointer (some ⟨b5, 0, none⟩), .pointer (some ⟨b6, 0, none⟩), .pointer (some ⟨b7, 0, none⟩)]) := fun hf => ⟨_, _, rfl, entersO7, fun W' hb => law7_no (hE.below hb) (hp.below hb) hf⟩
 have n8 : assocB p.T s op x (y.kind == 0) = false → LawNo W (.func (.func 129) #[] #[.pointer (some ⟨b15, 0, none⟩), .pointer (some ⟨b8, 0, none⟩), .pointer (some ⟨b6, 0, none⟩), .pointer (some ⟨b20, 0, none⟩), .pointer (some ⟨b7, 0, none⟩), .pointer (some ⟨b5, 0, none⟩), .pointer (some ⟨b19, 0, none⟩)]) := fun hf => ⟨_, _, rfl, entersO8, fun W' hb => law8_no (hE.below hb) (hp.below hb) s hs _ _ rfl hf⟩
 have n9 : (y.kind == 0 && sameB op x y.n) = false → LawNo W (.func (.func 132) #[] #[.pointer (some ⟨b19, 0, none⟩), .pointer (some ⟨b6, 0, none⟩), .pointer (some ⟨b24, 0, none⟩), .pointer (some ⟨b7, 0, none⟩), .pointer (some ⟨b20, 0, none⟩), .pointer (some ⟨b22, 0, none⟩), .pointer (some ⟨b8, 0, none⟩)]) := fun hf => ⟨_, _, rfl, entersO9, fun W' hb =>
  (law9_any (f := f) (r := r) (hE.below hb) (hp.below hb) (bs hb) hx rfl ha (fun q => by rw [hf] at q; cases q)).mono fun e w' q => or_no q (by rw [hf]; simp)⟩
 have n10 : (y.kind == 0 && nilB op y.n) = false → LawNo W (.func (.func 133) #[] #[.pointer (some ⟨b20, 0, none⟩), .pointer (some ⟨b19, 0, none⟩), .pointer (some ⟨b6, 0, none⟩), .pointer (some ⟨b21, 0, none⟩)]) := fun hf => ⟨_, _, rfl, entersO10, fun W' hb => law10_no (hE.below hb) (hp.below hb) hf⟩
 have n11 : (a == b && (op == 1 || op == 10)) = false → LawNo W (.func (.func 134) #[] #[.pointer (some ⟨b8, 0, none⟩), .pointer (some ⟨b9, 0, none⟩), .pointer (some ⟨b6, 0, none⟩), .pointer (some ⟨b21, 0, none⟩)]) := fun hf => ⟨_, _, rfl, entersO11, fun W' hb => law11_no (hE.below hb) (hp.below hb) hf⟩
 have n12 : (a == b && (op == 5 || op == 4)) = false → LawNo W (.func (.func 135) #[] #[.pointer (some ⟨b8, 0, none⟩), .pointer (some ⟨b9, 0, none⟩), .pointer (some ⟨b6, 0, none⟩), .pointer (some ⟨b22, 0, none⟩)]) := fun hf => ⟨_, _, rfl, entersO12, fun W' hb => law12_no (hE.below hb) (hp.below hb) hf⟩
 have hb2 := hb
 clear hb
 cases h3 : (s.kind == 0 && y.kind == 0)
 rotate_left
 ·have hq := hr
  rw [if_pos h3] at hq
  have hf := h3
  injection hq with hq
  refine ⟨0, by omega, fun i v hi _ => absurd hi (by omega), fun v hv => ?_, fun e => absurd e (by omega)⟩
  injection hv with hv
  subst hv
  exact ⟨_, _, rfl, entersO3, fun W' hb => (law3_yes (hE.below hb) (hp.below hb) hOk hUa hUb (bs hb) hq hf).mono fun e w' ⟨n, m, e1, q⟩ => ⟨n, m, e1, rr hb q⟩⟩
 cases h4 : (op == 8)
 rotate_left
 ·have hq := hr
  rw [if_neg (by rw [h3]; simp), if_pos (show op = 8 by simpa using h4)] at hq
  have hf := h4
  refine ⟨1, by omega, fun i v hi hv => by
   obtain rfl : i = 0 := by omega
   injection hv with hv
   subst hv
   exact n3 h3, fun v hv => ?_, fun e => absurd e (by omega)⟩
  injection hv with hv
  subst hv
  exact ⟨_, _, rfl, entersO4, fun W' hb => (law4_yes (hE.below hb) (hp.below hb) (bs hb) hIH ha hq hf).mono fun e w' ⟨n, m, e1, q⟩ => ⟨n, m, e1, rr hb q⟩⟩
 cases h5 : (op == 11)
 rotate_left
 ·have hq := hr
  rw [if_neg (by rw [h3]; simp), if_neg (show ¬ op = 8 by simpa using h4), if_pos (show op = 11 by simpa using h5)] at hq
  have hf := h5
  refine ⟨2, by omega, fun i v hi hv => by
   rcases (show i = 0 ∨ i = 1 by omega) with rfl | rfl
   ·injection hv with hv
    subst hv
    exact n3 h3
   ·injection hv with hv
    subst hv
    exact n4 h4, fun v hv => ?_, fun e => absurd e (by omega)⟩
  injection hv with hv
  subst hv
  exact ⟨_, _, rfl, entersO5, fun W' hb => (law5_yes (hE.below hb) (hp.below hb) (bs hb) hx4 hb2 hq hf).mono fun e w' ⟨n, m, e1, q⟩ => ⟨n, m, e1, rr hb q⟩⟩
 cases h6 : (op == 1 && y.kind == 0)
 rotate_left
 ·have hq := hr
  rw [if_neg (by rw [h3]; simp), if_neg (show ¬ op = 8 by simpa using h4), if_neg (show ¬ op = 11 by simpa using h5), if_pos h6] at hq
  have hf := h6
  refine ⟨3, by omega, fun i v hi hv => by
   rcases (show i = 0 ∨ i = 1 ∨ i = 2 by omega) with rfl | rfl | rfl
   ·injection hv with hv
    subst hv
    exact n3 h3
   ·injection hv with hv
    subst hv
    exact n4 h4
   ·injection hv with hv
    subst hv
    exact n5 h5, fun v hv => ?_, fun e => absurd e (by omega)⟩
  injection hv with hv
  subst hv
  exact ⟨_, _, rfl, entersO6, fun W' hb => (law6_yes (hE.below hb) (hp.below hb) (bs hb) hIH ha hq hf).mono fun e w' ⟨n, m, e1, q⟩ => ⟨n, m, e1, rr hb q⟩⟩
 cases h7 : (turnsB op && (s.kind == 0 || (!(y.kind == 0) && decide (b < a))))
 rotate_left
 ·have hq := hr
  rw [if_neg (by rw [h3]; simp), if_neg (show ¬ op = 8 by simpa using h4), if_neg (show ¬ op = 11 by simpa using h5), if_neg (by rw [h6]; simp), if_pos h7] at hq
  have hf := h7
  refine ⟨4, by omega, fun i v hi hv => by
   rcases (show i = 0 ∨ i = 1 ∨ i = 2 ∨ i = 3 by omega) with rfl | rfl | rfl | rfl
   ·injection hv with hv
    subst hv
    exact n3 h3
   ·injection hv with hv
    subst hv
    exact n4 h4
   ·injection hv with hv
    subst hv
    exact n5 h5
   ·injection hv with hv
    subst hv
    exact n6 h6, fun v hv => ?_, fun e => absurd e (by omega)⟩
  injection hv with hv
  subst hv
  exact ⟨_, _, rfl, entersO7, fun W' hb => (law7_yes (hE.below hb) (hp.below hb) (bs hb) hIH ha hb2 hq hf).mono fun e w' ⟨n, m, e1, q⟩ => ⟨n, m, e1, rr hb q⟩⟩
 cases h8 : assocB p.T s op x (y.kind == 0)
 rotate_left
 ·have hq := hr
  rw [if_neg (by rw [h3]; simp), if_neg (show ¬ op = 8 by simpa using h4), if_neg (show ¬ op = 11 by simpa using h5), if_neg (by rw [h6]; simp), if_neg (by rw [h7]; simp), if_pos h8] at hq
  have hf := h8
  refine ⟨5, by omega, fun i v hi hv => by
   rcases (show i = 0 ∨ i = 1 ∨ i = 2 ∨ i = 3 ∨ i = 4 by omega) with rfl | rfl | rfl | rfl | rfl
   ·injection hv with hv
    subst hv
    exact n3 h3
   ·injection hv with hv
    subst hv
    exact n4 h4
   ·injection hv with hv
    subst hv
    exact n5 h5
   ·injection hv with hv
    subst hv
    exact n6 h6
   ·injection hv with hv
    subst hv
    exact n7 h7, fun v hv => ?_, fun e => absurd e (by omega)⟩
  injection hv with hv
  subst hv
  exact ⟨_, _, rfl, entersO8, fun W' hb => (law8_yes (hE.below hb) (hp.below hb) (bs hb) hIH s hs _ _ rfl hf hq).mono fun e w' ⟨n, m, e1, q⟩ => ⟨n, m, e1, rr hb q⟩⟩
 cases h9 : (y.kind == 0 && sameB op x y.n)
 rotate_left
 ·have hq := hr
  rw [if_neg (by rw [h3]; simp), if_neg (show ¬ op = 8 by simpa using h4), if_neg (show ¬ op = 11 by simpa using h5), if_neg (by rw [h6]; simp), if_neg (by rw [h7]; simp), if_neg (by rw [h8]; simp), if_pos h9] at hq
  have hf := h9
  refine ⟨6, by omega, fun i v hi hv => by
   rcases (show i = 0 ∨ i = 1 ∨ i = 2 ∨ i = 3 ∨ i = 4 ∨ i = 5 by omega) with rfl | rfl | rfl | rfl | rfl | rfl
   ·injection hv with hv
    subst hv
    exact n3 h3
   ·injection hv with hv
    subst hv
    exact n4 h4
   ·injection hv with hv
    subst hv
    exact n5 h5
   ·injection hv with hv
    subst hv
    exact n6 h6
   ·injection hv with hv
    subst hv
    exact n7 h7
   ·injection hv with hv
    subst hv
    exact n8 h8, fun v hv => ?_, fun e => absurd e (by omega)⟩
  injection hv with hv
  subst hv
  exact ⟨_, _, rfl, entersO9, fun W' hb => ((law9_any (f := f) (r := r) (hE.below hb) (hp.below hb) (bs hb) hx rfl ha (fun _ => hq)).mono fun e w' q => or_yes q (by rw [hf]; simp)).mono fun e w' ⟨n, m, e1, q⟩ => ⟨n, m, e1, rr hb q⟩⟩
 cases h10 : (y.kind == 0 && nilB op y.n)
 rotate_left
 ·have hq := hr
  rw [if_neg (by rw [h3]; simp), if_neg (show ¬ op = 8 by simpa using h4), if_neg (show ¬ op = 11 by simpa using h5), if_neg (by rw [h6]; simp), if_neg (by rw [h7]; simp), if_neg (by rw [h8]; simp), if_neg (by rw [h9]; simp), if_pos h10] at hq
  have hf := h10
  injection hq with hq
  refine ⟨7, by omega, fun i v hi hv => by
   rcases (show i = 0 ∨ i = 1 ∨ i = 2 ∨ i = 3 ∨ i = 4 ∨ i = 5 ∨ i = 6 by omega) with rfl | rfl | rfl | rfl | rfl | rfl | rfl
   ·injection hv with hv
    subst hv
    exact n3 h3
   ·injection hv with hv
    subst hv
    exact n4 h4
   ·injection hv with hv
    subst hv
    exact n5 h5
   ·injection hv with hv
    subst hv
    exact n6 h6
   ·injection hv with hv
    subst hv
    exact n7 h7
   ·injection hv with hv
    subst hv
    exact n8 h8
   ·injection hv with hv
    subst hv
    exact n9 h9, fun v hv => ?_, fun e => absurd e (by omega)⟩
  injection hv with hv
  subst hv
  exact ⟨_, _, rfl, entersO10, fun W' hb => (law10_yes (hE.below hb) (hp.below hb) (bs hb) hq hf).mono fun e w' ⟨n, m, e1, q⟩ => ⟨n, m, e1, rr hb q⟩⟩
 cases h11 : (a == b && (op == 1 || op == 10))
 rotate_left
 ·have hq := hr
  rw [if_neg (by rw [h3]; simp), if_neg (show ¬ op = 8 by simpa using h4), if_neg (show ¬ op = 11 by simpa using h5), if_neg (by rw [h6]; simp), if_neg (by rw [h7]; simp), if_neg (by rw [h8]; simp), if_neg (by rw [h9]; simp), if_neg (by rw [h10]; simp), if_pos h11] at hq
  have hf := h11
  injection hq with hq
  refine ⟨8, by omega, fun i v hi hv => by
   rcases (show i = 0 ∨ i = 1 ∨ i = 2 ∨ i = 3 ∨ i = 4 ∨ i = 5 ∨ i = 6 ∨ i = 7 by omega) with rfl | rfl | rfl | rfl | rfl | rfl | rfl | rfl
   ·injection hv with hv
    subst hv
    exact n3 h3
   ·injection hv with hv
    subst hv
    exact n4 h4
   ·injection hv with hv
    subst hv
    exact n5 h5
   ·injection hv with hv
    subst hv
    exact n6 h6
   ·injection hv with hv
    subst hv
    exact n7 h7
   ·injection hv with hv
    subst hv
    exact n8 h8
   ·injection hv with hv
    subst hv
    exact n9 h9
   ·injection hv with hv
    subst hv
    exact n10 h10, fun v hv => ?_, fun e => absurd e (by omega)⟩
  injection hv with hv
  subst hv
  exact ⟨_, _, rfl, entersO11, fun W' hb => (law11_yes (hE.below hb) (hp.below hb) (bs hb) hq hf).mono fun e w' ⟨n, m, e1, q⟩ => ⟨n, m, e1, rr hb q⟩⟩
 cases h12 : (a == b && (op == 5 || op == 4))
 rotate_left
 ·have hq := hr
  rw [if_neg (by rw [h3]; simp), if_neg (show ¬ op = 8 by simpa using h4), if_neg (show ¬ op = 11 by simpa using h5), if_neg (by rw [h6]; simp), if_neg (by rw [h7]; simp), if_neg (by rw [h8]; simp), if_neg (by rw [h9]; simp), if_neg (by rw [h10]; simp), if_neg (by rw [h11]; simp), if_pos h12] at hq
  have hf := h12
  refine ⟨9, by omega, fun i v hi hv => by
   rcases (show i = 0 ∨ i = 1 ∨ i = 2 ∨ i = 3 ∨ i = 4 ∨ i = 5 ∨ i = 6 ∨ i = 7 ∨ i = 8 by omega) with rfl | rfl | rfl | rfl | rfl | rfl | rfl | rfl | rfl
   ·injection hv with hv
    subst hv
    exact n3 h3
   ·injection hv with hv
    subst hv
    exact n4 h4
   ·injection hv with hv
    subst hv
    exact n5 h5
   ·injection hv with hv
    subst hv
    exact n6 h6
   ·injection hv with hv
    subst hv
    exact n7 h7
   ·injection hv with hv
    subst hv
    exact n8 h8
   ·injection hv with hv
    subst hv
    exact n9 h9
   ·injection hv with hv
    subst hv
    exact n10 h10
   ·injection hv with hv
    subst hv
    exact n11 h11, fun v hv => ?_, fun e => absurd e (by omega)⟩
  injection hv with hv
  subst hv
  exact ⟨_, _, rfl, entersO12, fun W' hb => (law12_yes (hE.below hb) (hp.below hb) (bs hb) hx4 ha hq hf).mono fun e w' ⟨n, m, e1, q⟩ => ⟨n, m, e1, rr hb q⟩⟩
 ·have hq := hr
  rw [if_neg (by rw [h3]; simp), if_neg (show ¬ op = 8 by simpa using h4), if_neg (show ¬ op = 11 by simpa using h5), if_neg (by rw [h6]; simp), if_neg (by rw [h7]; simp), if_neg (by rw [h8]; simp), if_neg (by rw [h9]; simp), if_neg (by rw [h10]; simp), if_neg (by rw [h11]; simp), if_neg (by rw [h12]; simp)] at hq
  injection hq with hq
  refine ⟨10, by omega, fun i v hi hv => by
   rcases (show i = 0 ∨ i = 1 ∨ i = 2 ∨ i = 3 ∨ i = 4 ∨ i = 5 ∨ i = 6 ∨ i = 7 ∨ i = 8 ∨ i = 9 by omega) with rfl | rfl | rfl | rfl | rfl | rfl | rfl | rfl | rfl | rfl
   ·injection hv with hv
    subst hv
    exact n3 h3
   ·injection hv with hv
    subst hv
    exact n4 h4
   ·injection hv with hv
    subst hv
    exact n5 h5
   ·injection hv with hv
    subst hv
    exact n6 h6
   ·injection hv with hv
    subst hv
    exact n7 h7
   ·injection hv with hv
    subst hv
    exact n8 h8
   ·injection hv with hv
    subst hv
    exact n9 h9
   ·injection hv with hv
    subst hv
    exact n10 h10
   ·injection hv with hv
    subst hv
    exact n11 h11
   ·injection hv with hv
    subst hv
    exact n12 h12, fun v hv => (by cases hv), fun _ => ?_⟩
  refine ⟨_, _, rfl, entersO13, fun W' hb => ?_⟩
  have := op13_any (hE.below hb) (hp.below hb) (bs hb) (by unfold I8; omega) (by unfold I8; omega) ha hb2
  rw [show putR p (opT op x a b) = r from hq] at this
  exact this.mono fun e w' q => by
   obtain ⟨n, m, e1, q⟩ := RR.of q
   exact ⟨n, m, e1, rr hb q⟩
end
end Go.Proofs.YtepagfkkjlbipaaGreat
