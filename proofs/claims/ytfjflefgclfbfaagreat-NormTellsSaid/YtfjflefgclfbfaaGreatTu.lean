/-
  norm.Ite in plain words; which of its laws fits. Conditions: those written in each statement.
-/
import Derived.Test.YtfjflefgclfbfaaGreatTz
namespace Go.Proofs.YtfjflefgclfbfaaGreat
open Go.RowKit
set_option linter.unusedVariables false
set_option linter.unusedSimpArgs false
set_option maxRecDepth 100000
/-- The laws of division fit. -/
def divOK (T : List TD) (a b c : Int) : Bool := divA T a c && (divG T a c && (divD T b c || divM T a b c))
def iteL (rec : PS → Int → Int → Int → Option RS) (f : Nat) (p : PS) (a b c : Int) : Option RS :=
  let s := atP p.T a
  if (s.kind == 0) = true then some (p, (if s.n = 0 then c else b), 0)
  else if (b == c) = true then some (p, b, 0)
  else if (s.kind == 4 && s.op == 1) = true then (condF (f + 1) p 0 s.w s.a s.b).bind fun q => bindR q fun p1 z => rec p1 z c b
  else if divOK p.T a b c = true then opF f p (atP p.T c).op s.w (atP p.T c).a s.a
  else some (putR p (iteT a b c))
def iteF : Nat → PS → Int → Int → Int → Option RS
  | 0, _, _, _, _ => none
  | f + 1, p, a, b, c => if ([a, b, c].all (hasB p.T)) = false then some (p, 0, 2) else iteL (iteF f) f p a b c
theorem iteF_succ (f : Nat) (p : PS) (a b c : Int) : iteF (f + 1) p a b c = if ([a, b, c].all (hasB p.T)) = false then some (p, 0, 2) else iteL (iteF f) f p a b c := rfl
theorem both_wf {p : PS} (hw : WfP p) (hr : ∀ t ∈ p.T, t.wf) {a b : Int} (ha : I64 a) (hb : I64 b) (x : Int) : WfP (bothP p x a b).1 ∧ ∀ t ∈ (bothP p x a b).1.T, t.wf := by
  obtain ⟨h1, h2, h3⟩ := operand_i64 hw hr ha x
  unfold bothP
  dsimp only
  split
  · exact (operand_i64 h2 h3 hb x).2
  · exact ⟨h2, h3⟩
/-- A condition's number is one of Go's. -/
theorem cond_i64 : ∀ (f : Nat) {p : PS} (hw : WfP p) (hr : ∀ t ∈ p.T, t.wf) {cc x a b : Int} (ha : I64 a) (hb : I64 b) {q : RS} (h : condF f p cc x a b = some q), I64 q.2.1
  | 0, _, _, _, _, _, _, _, _, _, _, h => by cases h
  | f + 1, p, hw, hr, cc, x, a, b, ha, hb, q, h => by
    rw [condF_succ] at h
    split at h
    · injection h with h; subst h; unfold I64; dsimp only; omega
    split at h
    · injection h with h; subst h; unfold I64; dsimp only; omega
    split at h
    · have hi := both_i64 hw hr ha hb x
      have hw2 := both_wf hw hr ha hb x
      unfold condL at h
      dsimp only at h
      split at h
      · injection h with h; subst h; exact putN_i64 hw2.1 _
      split at h
      · injection h with h; subst h; exact putN_i64 hw2.1 _
      split at h
      · exact cond_i64 f hw2.1 hw2.2 hi.2 hi.1 h
      split at h
      · injection h with h; subst h; exact putN_i64 hw2.1 _
      · injection h with h; subst h; exact putN_i64 hw2.1 _
    · injection h with h; subst h; unfold I64; dsimp only; omega
theorem entersI2 : EntersB 66 := enters_of Tryz.func66 (by kernel_rfl) rfl
theorem entersI3 : EntersB 67 := enters_of Tryz.func67 (by kernel_rfl) rfl
theorem entersI4 : EntersB 68 := enters_of Tryz.func68 (by kernel_rfl) rfl
theorem entersI5 : EntersB 70 := enters_of Tryz.func70 (by kernel_rfl) rfl
theorem entersI6 : EntersB 72 := enters_of Tryz.func72 (by kernel_rfl) rfl
section
variable {base f g : Nat} {a b c way : Int} {s : TD} {b4 b5 b6 b7 b11 b12 b13 b14 : Nat} {F F1 : Nat → Prop} {W W1 : World} {p : PS} {r : RS}
/-- division's contract: both sides. -/
theorem division_any (hbase : base ≤ W.heap.size) (h : PoolAt W base F g p) (hO : divOK p.T a b c = true → opF f p (atP p.T c).op (atP p.T a).w (atP p.T c).a (atP p.T a).a = some r) :
    Calls Tryz.prog 71 #[.agg #[.pointer (some ⟨g, 0, none⟩)], .int .i64 a, .int .i64 b, .int .i64 c] W fun e w' =>
      (divOK p.T a b c = false ∧ e = .returned (.tuple #[.int .i64 0, .bool false, .int .i64 0]) ∧ Below W.heap.size W w') ∨
      (divOK p.T a b c = true ∧ ∃ n m, e = .returned (.tuple #[.int .i64 n, .bool true, .int .i64 m]) ∧ RR base g F W r n m w') := by
  unfold divOK at hO ⊢
  cases hd : divA p.T a c
  · refine (division_no a b c W h hd).mono ?_
    rintro e w1 ⟨rfl, hb⟩
    exact .inl ⟨by simp, rfl, hb⟩
  · rw [hd] at hO
    exact (division_walk f r a b c W hbase h hd (fun q => hO (by rw [q]; rfl))).mono fun e w' q => by simpa using q
set_option maxHeartbeats 2000000 in
theorem ite5_any (hE : IteE g a b c way s b4 b5 b6 b7 b11 b12 b13 b14 F W) (hbase : base ≤ W.heap.size) (hp : PoolAt W base F g p) (hO : divOK p.T a b c = true → opF f p (atP p.T c).op (atP p.T a).w (atP p.T c).a (atP p.T a).a = some r) :
    Calls Tryz.prog 70 #[.pointer (some ⟨b11, 0, none⟩), .pointer (some ⟨b5, 0, none⟩), .pointer (some ⟨b6, 0, none⟩), .pointer (some ⟨b7, 0, none⟩)] W fun e w' =>
      (divOK p.T a b c = false ∧ e = .returned (.tuple #[.int .i64 0, .bool false, .int .i64 0]) ∧ Below W.heap.size W w') ∨
      (divOK p.T a b c = true ∧ ∃ n m, e = .returned (.tuple #[.int .i64 n, .bool true, .int .i64 m]) ∧ RR base g F W r n m w') := by
  have HC := hide (division_any hbase hp hO)
  have c11 := hE.e11.1.cell 0
  have c5 := hE.e5.1.cell 0
  have c6 := hE.e6.1.cell 0
  have c7 := hE.e7.1.cell 0
  simp at c11 c5 c6 c7
  clear hE hbase hp hO
  go_enter Tryz.func70, Tryz.ntmps70
  go_wp2_with fail
  refine HC.out.mono ?_
  rintro e w1 (⟨k, rfl, hb⟩ | ⟨k, n, m, rfl, hr⟩)
  · have HB := hide hb
    have HK := hide k
    clear hb k
    go_wp2
    exact bodyPost_ret (v := .tuple #[.int .i64 0, .bool false, .int .i64 0]) (by simp [results, Tryz.results70, go_sem]) rfl (.inl ⟨HK.out, rfl, HB.out⟩)
  · have HR := hide hr
    have HK := hide k
    clear hr k
    go_wp2
    exact bodyPost_ret (v := .tuple #[.int .i64 n, .bool true, .int .i64 m]) (by simp [results, Tryz.results70, go_sem]) rfl (.inr ⟨HK.out, n, m, rfl, HR.out⟩)
def ilawsL (b4 b5 b6 b7 b11 b12 b13 b14 : Nat) : List Value := [.func (.func 66) #[] #[.pointer (some ⟨b12, 0, none⟩), .pointer (some ⟨b14, 0, none⟩), .pointer (some ⟨b13, 0, none⟩)], .func (.func 67) #[] #[.pointer (some ⟨b6, 0, none⟩), .pointer (some ⟨b7, 0, none⟩), .pointer (some ⟨b14, 0, none⟩)],
  .func (.func 68) #[] #[.pointer (some ⟨b12, 0, none⟩), .pointer (some ⟨b4, 0, none⟩), .pointer (some ⟨b7, 0, none⟩), .pointer (some ⟨b6, 0, none⟩)], .func (.func 70) #[] #[.pointer (some ⟨b11, 0, none⟩), .pointer (some ⟨b5, 0, none⟩), .pointer (some ⟨b6, 0, none⟩), .pointer (some ⟨b7, 0, none⟩)]]
theorem ite_choose (hE : IteE g a b c (if s.n = 0 then c else b) s b4 b5 b6 b7 b11 b12 b13 b14 F W) (hp : PoolAt W base F g p) (hbase : base ≤ W.heap.size) (hIH : IteC base g iteF f) (hs : atP p.T a = s) (ha : I64 a) (hb : I64 b) (hc : I64 c) (hr : iteL (iteF f) f p a b c = some r) :
    ∃ j, j ≤ 4 ∧ (∀ i v, i < j → (ilawsL b4 b5 b6 b7 b11 b12 b13 b14)[i]? = some v → LawNo W v) ∧ (∀ v, (ilawsL b4 b5 b6 b7 b11 b12 b13 b14)[j]? = some v → LawYes W (RR base g F W r) v) ∧ (j = 4 → LawPut W (RR base g F W r) (.func (.func 72) #[] #[.pointer (some ⟨b4, 0, none⟩), .pointer (some ⟨b5, 0, none⟩), .pointer (some ⟨b6, 0, none⟩), .pointer (some ⟨b7, 0, none⟩)])) := by
  have hsw : s.wf := by rw [← hs]; exact atP_wf hp.rng a
  unfold iteL at hr
  rw [hs] at hr
  dsimp only at hr
  have rr : ∀ {W' W2 : World} {n m : Int} (hb : Below W.heap.size W W') (q : RR base g F W' r n m W2), RR base g F W r n m W2 := fun hb q => q.from (PG.of_below hp hb)
  have bs : ∀ {W' : World} (hb : Below W.heap.size W W'), base ≤ W'.heap.size := fun hb => Nat.le_trans hbase hb.size
  have n2 : (s.kind == 0) = false → LawNo W (.func (.func 66) #[] #[.pointer (some ⟨b12, 0, none⟩), .pointer (some ⟨b14, 0, none⟩), .pointer (some ⟨b13, 0, none⟩)]) := fun hf => ⟨_, _, rfl, entersI2, fun W' hb => ite2_no (hE.below hb) (hp.below hb) hf⟩
  have n3 : (b == c) = false → LawNo W (.func (.func 67) #[] #[.pointer (some ⟨b6, 0, none⟩), .pointer (some ⟨b7, 0, none⟩), .pointer (some ⟨b14, 0, none⟩)]) := fun hf => ⟨_, _, rfl, entersI3, fun W' hb => ite3_no (hE.below hb) (hp.below hb) hf⟩
  have n4 : (s.kind == 4 && s.op == 1) = false → LawNo W (.func (.func 68) #[] #[.pointer (some ⟨b12, 0, none⟩), .pointer (some ⟨b4, 0, none⟩), .pointer (some ⟨b7, 0, none⟩), .pointer (some ⟨b6, 0, none⟩)]) := fun hf => ⟨_, _, rfl, entersI4, fun W' hb => ite4_no (hE.below hb) (hp.below hb) hf⟩
  have n5 : divOK p.T a b c = false → LawNo W (.func (.func 70) #[] #[.pointer (some ⟨b11, 0, none⟩), .pointer (some ⟨b5, 0, none⟩), .pointer (some ⟨b6, 0, none⟩), .pointer (some ⟨b7, 0, none⟩)]) := fun hf => ⟨_, _, rfl, entersI5, fun W' hb =>
    (ite5_any (f := f) (r := r) (hE.below hb) (bs hb) (hp.below hb) (fun q => by rw [hf] at q; cases q)).mono fun e w' q => or_no q (by rw [hf]; simp)⟩
  cases h2 : (s.kind == 0)
  rotate_left
  · have hq := hr
    rw [if_pos h2] at hq
    injection hq with hq
    refine ⟨0, by omega, fun i v hi _ => absurd hi (by omega), fun v hv => ?_, fun e => absurd e (by omega)⟩
    injection hv with hv
    subst hv
    exact ⟨_, _, rfl, entersI2, fun W' hb => (ite2_yes (hE.below hb) (hp.below hb) h2).mono fun e w' ⟨n, m, e1, q⟩ => ⟨n, m, e1, rr hb (by rw [← hq]; exact q)⟩⟩
  cases h3 : (b == c)
  rotate_left
  · have hq := hr
    rw [if_neg (by rw [h2]; simp), if_pos h3] at hq
    injection hq with hq
    refine ⟨1, by omega, fun i v hi hv => by
      obtain rfl : i = 0 := by omega
      injection hv with hv
      subst hv
      exact n2 h2, fun v hv => ?_, fun e => absurd e (by omega)⟩
    injection hv with hv
    subst hv
    exact ⟨_, _, rfl, entersI3, fun W' hb => (ite3_yes (hE.below hb) (hp.below hb) h3).mono fun e w' ⟨n, m, e1, q⟩ => ⟨n, m, e1, rr hb (by rw [← hq]; exact q)⟩⟩
  cases h4 : (s.kind == 4 && s.op == 1)
  rotate_left
  · have hq := hr
    rw [if_neg (by rw [h2]; simp), if_neg (by rw [h3]; simp), if_pos h4] at hq
    cases hc1 : condF (f + 1) p 0 s.w s.a s.b with
    | none => rw [hc1] at hq; cases hq
    | some q1 =>
      rw [hc1] at hq
      have hz := cond_i64 (f + 1) hp.wf hp.rng hsw.2.2.2.2.1 hsw.2.2.2.2.2.1 hc1
      refine ⟨2, by omega, fun i v hi hv => by
        rcases (show i = 0 ∨ i = 1 by omega) with rfl | rfl
        · injection hv with hv
          subst hv
          exact n2 h2
        · injection hv with hv
          subst hv
          exact n3 h3, fun v hv => ?_, fun e => absurd e (by omega)⟩
      injection hv with hv
      subst hv
      exact ⟨_, _, rfl, entersI4, fun W' hb' => (ite4_yes (hE.below hb') (hp.below hb') (ite4_do (hE.below hb') (hp.below hb') (bs hb') hIH hsw hb hc hc1 hz hq) h4).mono fun e w' ⟨n, m, e1, q⟩ => ⟨n, m, e1, rr hb' q⟩⟩
  cases h5 : divOK p.T a b c
  rotate_left
  · have hq := hr
    rw [if_neg (by rw [h2]; simp), if_neg (by rw [h3]; simp), if_neg (by rw [h4]; simp), if_pos h5] at hq
    refine ⟨3, by omega, fun i v hi hv => by
      rcases (show i = 0 ∨ i = 1 ∨ i = 2 by omega) with rfl | rfl | rfl
      · injection hv with hv
        subst hv
        exact n2 h2
      · injection hv with hv
        subst hv
        exact n3 h3
      · injection hv with hv
        subst hv
        exact n4 h4, fun v hv => ?_, fun e => absurd e (by omega)⟩
    injection hv with hv
    subst hv
    exact ⟨_, _, rfl, entersI5, fun W' hb => ((ite5_any (f := f) (r := r) (hE.below hb) (bs hb) (hp.below hb) (fun _ => by rw [hs]; exact hq)).mono fun e w' q => or_yes q (by rw [h5]; simp)).mono fun e w' ⟨n, m, e1, q⟩ => ⟨n, m, e1, rr hb q⟩⟩
  · have hq := hr
    rw [if_neg (by rw [h2]; simp), if_neg (by rw [h3]; simp), if_neg (by rw [h4]; simp), if_neg (by rw [h5]; simp)] at hq
    injection hq with hq
    refine ⟨4, by omega, fun i v hi hv => by
      rcases (show i = 0 ∨ i = 1 ∨ i = 2 ∨ i = 3 by omega) with rfl | rfl | rfl | rfl
      · injection hv with hv
        subst hv
        exact n2 h2
      · injection hv with hv
        subst hv
        exact n3 h3
      · injection hv with hv
        subst hv
        exact n4 h4
      · injection hv with hv
        subst hv
        exact n5 h5, fun v hv => (by cases hv), fun _ => ?_⟩
    exact ⟨_, _, rfl, entersI6, fun W' hb' => (ite6_any (hE.below hb') (hp.below hb') (bs hb') ha hb hc).mono fun e w' q => by
      rw [hq] at q
      obtain ⟨n, m, e1, q⟩ := RR.of q
      exact ⟨n, m, e1, rr hb' q⟩⟩
end
end Go.Proofs.YtfjflefgclfbfaaGreat
