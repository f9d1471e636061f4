/-
  Contracts of norm.Eval and of the laws' wakes. Conditions: those written in each statement.
-/
import Derived.Test.YtfjflefgclfbfaaGreatUc
import Derived.Test.YtfjflefgclfbfaaGreatUa
namespace Go.Proofs.YtfjflefgclfbfaaGreat
open Go.RowKit
set_option linter.unusedVariables false
set_option linter.unusedSimpArgs false
set_option maxRecDepth 100000
section
variable {base g nn c B gm : Nat} {F : Nat → Prop} {p : PS} {vs : List Int} {A : Option Addr}
theorem eval_all : ∀ (N : Nat) (n : Int), I64 n → n.toNat < N → EvC base g F p vs A nn c B gm n := by
  intro N
  induction N with
  | zero => intro n hI h; omega
  | succ N ih =>
    intro n hI h
    exact eval_step n hI fun k h0 h1 => ih k (by unfold I64 at *; omega) (by omega)
set_option maxHeartbeats 1000000 in
/-- Eval: a term's value, of the variables that came in. -/
theorem Eval_any (n : Int) (hI : I64 n) (W : World) (h : PoolAt W base F g p) (hr : Reads W W.heap.size 1 A nn (vs.map (Value.int .u64))) (hl : vs.length = nn) (hc : nn ≤ c) (hs : nn < 9223372036854775808) (hu : ∀ v ∈ vs, U64 v) :
    Calls Tryz.prog 9 #[.pointer (some ⟨g, 0, none⟩), .int .i64 n, .slice A nn c] W fun e w' => e = .returned (.tuple #[.int .u64 (resV (evP p.T vs n)).1, .int .i64 (resV (evP p.T vs n)).2]) ∧ Below W.heap.size W w' := by
  have HP := hide h
  have HR := hide hr
  have HX := hide (And.intro hl (And.intro hc (And.intro hs hu)))
  have HI := hide hI
  clear h hr hl hc hs hu hI
  go_enter Tryz.func9, Tryz.ntmps9
  go_wp2_with (first
    | (refine wpList_makeMap (Value.int .i64) I64 3 rfl 65 rfl ?_
       intro w1 gm hgm hm hb
       have HM := hide hm
       have HG := hide hgm
       have HB := hide hb
       clear hm hb hgm)
    | fail)
  have hF : EvF base g F p vs A nn c W.heap.size gm [] w1 :=
    ⟨HP.out.below HB.out, HR.out.below HB.out, HX.out.1, HX.out.2.1, HX.out.2.2.1, HX.out.2.2.2, HM.out.congr fun x => rfl, ⟨fun q => by have := (HP.out.fb _ q).2; have := HG.out; omega, HG.out⟩, List.nodup_nil, fun i hi => absurd hi (by simp), fun i hi => absurd hi (by simp)⟩
  have hall := eval_all (base := base) (g := g) (F := F) (p := p) (vs := vs) (A := A) (nn := nn) (c := c) (B := W.heap.size) (gm := gm) (n.toNat + 1) n HI.out (by omega) [] w1 hF
  refine hall.mono ?_
  rintro e w2 ⟨L, rfl, _, hc, _⟩
  have HC := hide (HB.out.trans (hc.below (B := W.heap.size) (fun b q => q ▸ HG.out) HB.out.size))
  clear hF hall hc
  go_wp2
  go_ret2
  exact ⟨rfl, HC.out⟩
end
/-- What the document says of x + 3 + 4, and of x Xor x. -/
def wT1 : List TD := [varT 0 64]
def wT4 : List TD := [varT 0 64, constT 3, constT 4, constT 7]
def wT5 : List TD := [varT 0 64, constT 3, constT 4, constT 7, opT 0 64 0 1]
def wT6 : List TD := [varT 0 64, constT 3, constT 4, constT 7, opT 0 64 0 1, opT 0 64 0 3]
def wT7 : List TD := [varT 0 64, constT 3, constT 4, constT 7, opT 0 64 0 1, opT 0 64 0 3, constT 0]
theorem w_1 : putR ⟨[], []⟩ (varT 0 64) = (⟨wT1, [1]⟩, 0, 0) := by rfl
theorem w_2 : putR ⟨wT1, [1]⟩ (constT 3) = (⟨[varT 0 64, constT 3], [1, 1]⟩, 1, 0) := by rfl
theorem w_3 : putR ⟨[varT 0 64, constT 3], [1, 1]⟩ (constT 4) = (⟨[varT 0 64, constT 3, constT 4], [1, 1, 1]⟩, 2, 0) := by rfl
theorem w_4 : putR ⟨[varT 0 64, constT 3, constT 4], [1, 1, 1]⟩ (constT 7) = (⟨wT4, [1, 1, 1, 1]⟩, 3, 0) := by rfl
theorem w_5 : opF 6 ⟨wT4, [1, 1, 1, 1]⟩ 0 64 0 1 = some (⟨wT5, [1, 1, 1, 1, 2]⟩, 4, 0) := by rfl
theorem w_6 : opF 6 ⟨wT5, [1, 1, 1, 1, 2]⟩ 0 64 4 2 = some (⟨wT6, [1, 1, 1, 1, 2, 2]⟩, 5, 0) := by rfl
theorem w_7 : opF 6 ⟨wT6, [1, 1, 1, 1, 2, 2]⟩ 0 64 0 3 = some (⟨wT6, [1, 1, 1, 1, 2, 2]⟩, 5, 0) := by rfl
theorem w_8 : opF 6 ⟨wT6, [1, 1, 1, 1, 2, 2]⟩ 10 64 0 0 = some (⟨wT7, [1, 1, 1, 1, 2, 2, 1]⟩, 6, 0) := by rfl
theorem w_9 : evP wT7 [5] 6 = some 0 := by rfl
set_option maxHeartbeats 4000000 in
theorem wakes_any (w : World) : Calls Tryz.prog 4 #[] w fun e w' => e = .returned (.bool true) ∧ Below w.heap.size w w' := by
  go_enter Tryz.func4, Tryz.ntmps4
  go_wp2_with fail
  refine (new_any _).mono ?_
  rintro e w0 ⟨g, F0, rfl, hp, hb⟩
  have HB := hide hb
  have HF := hide (fun b q => (hp.fb b q).1 : ∀ b, F0 b → w.heap.size ≤ b)
  have HQ := hide (PG.refl hp)
  clear hp hb
  go_wp2_with fail
  refine (var_any 0 64 (by omega) (by omega) (by unfold I8; omega) _ HQ.out.pool (Nat.le_trans HB.out.size HQ.out.size)).mono ?_
  rintro e w1 ⟨rfl, F1, hp⟩
  rw [w_1] at hp ⊢
  replace HQ := hide (HQ.out.trans hp)
  clear hp
  go_wp2_with fail
  refine (const_any 3 (by unfold U64; omega) _ HQ.out.pool (Nat.le_trans HB.out.size HQ.out.size)).mono ?_
  rintro e w2 ⟨rfl, F2, hp⟩
  rw [w_2] at hp ⊢
  replace HQ := hide (HQ.out.trans hp)
  clear hp
  go_wp2_with fail
  refine (const_any 4 (by unfold U64; omega) _ HQ.out.pool (Nat.le_trans HB.out.size HQ.out.size)).mono ?_
  rintro e w3 ⟨rfl, F3, hp⟩
  rw [w_3] at hp ⊢
  replace HQ := hide (HQ.out.trans hp)
  clear hp
  go_wp2_with fail
  refine (const_any 7 (by unfold U64; omega) _ HQ.out.pool (Nat.le_trans HB.out.size HQ.out.size)).mono ?_
  rintro e w4 ⟨rfl, F4, hp⟩
  rw [w_4] at hp ⊢
  replace HQ := hide (HQ.out.trans hp)
  clear hp
  go_wp2_with fail
  refine (op_all (base := w.heap.size) (g := g) 6 0 64 0 1 (by unfold I64; omega) (by unfold I64; omega) _ _ _ w_5 _ HQ.out.pool (Nat.le_trans HB.out.size HQ.out.size)).mono ?_
  rintro e w5 ⟨rfl, F5, hp⟩
  replace HQ := hide (HQ.out.trans hp)
  clear hp
  go_wp2_with fail
  refine (op_all (base := w.heap.size) (g := g) 6 0 64 4 2 (by unfold I64; omega) (by unfold I64; omega) _ _ _ w_6 _ HQ.out.pool (Nat.le_trans HB.out.size HQ.out.size)).mono ?_
  rintro e w6 ⟨rfl, F6, hp⟩
  replace HQ := hide (HQ.out.trans hp)
  clear hp
  go_wp2_with fail
  refine (op_all (base := w.heap.size) (g := g) 6 0 64 0 3 (by unfold I64; omega) (by unfold I64; omega) _ _ _ w_7 _ HQ.out.pool (Nat.le_trans HB.out.size HQ.out.size)).mono ?_
  rintro e w7 ⟨rfl, F7, hp⟩
  replace HQ := hide (HQ.out.trans hp)
  clear hp
  go_wp2_with fail
  refine (op_all (base := w.heap.size) (g := g) 6 10 64 0 0 (by unfold I64; omega) (by unfold I64; omega) _ _ _ w_8 _ HQ.out.pool (Nat.le_trans HB.out.size HQ.out.size)).mono ?_
  rintro e w8 ⟨rfl, F8, hp⟩
  replace HQ := hide (HQ.out.trans hp)
  clear hp
  go_wp2_with fail
  have hbA := bl_alloc w8 (.cells #[.int .u64 5] 31)
  replace HQ := hide (HQ.out.step hbA)
  refine (Eval_any (vs := [5]) (nn := 1) (c := 1) 6 (by unfold I64; omega) _ HQ.out.pool (reads_list w8 31 [.int .u64 5] 1 rfl) rfl (Nat.le_refl _) (by omega) (by simp [U64])).mono ?_
  rintro e w9 ⟨rfl, hb⟩
  rw [w_9]
  replace HQ := hide (HQ.out.step hb)
  clear hb hbA
  dsimp only [resV]
  go_wp2
  go_ret
  exact ⟨rfl, HB.out.trans (HQ.out.chg.below HF.out HB.out.size)⟩
end Go.Proofs.YtfjflefgclfbfaaGreat
