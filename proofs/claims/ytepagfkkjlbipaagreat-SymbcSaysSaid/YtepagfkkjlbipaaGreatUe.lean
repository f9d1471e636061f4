/-
  Contracts of norm.Eval and of the laws' wakes. Conditions: those written in each statement.
-/
import Derived.Test.YtepagfkkjlbipaaGreatUc
import Derived.Test.YtepagfkkjlbipaaGreatNs
namespace Go.Proofs.YtepagfkkjlbipaaGreat
open Go.RowKit
set_option linter.unusedVariables false
set_option linter.unusedSimpArgs false
set_option maxRecDepth 100000
section
variable {base g nn c B gm : Nat} {F : Nat → Prop} {p : PS} {vs : List Int} {A : Option Addr}
theorem eval_all : ∀ (N : Nat) (n : Int), I64 n → n.toNat < N → EvC base g F p vs A nn c B gm n := by
 intro N
 induction N with
 | zero => intro n hI h; omega
 | succ N ih =>
  intro n hI h
  exact eval_step n hI fun k h0 h1 => ih k (by unfold I64 at *; omega) (by omega)
set_option maxHeartbeats 1000000 in
/-- Eval: a term's value, of the variables that came in. -/
theorem Eval_any (n : Int) (hI : I64 n) (W : World) (h : PoolAt W base F g p) (hr : Reads W W.heap.size 1 A nn (vs.map (Value.int .u64))) (hl : vs.length = nn) (hc : nn ≤ c) (hs : nn < 9223372036854775808) (hu : ∀ v ∈ vs, U64 v) :
  Calls Tryz.prog 26 #[.pointer (some ⟨g, 0, none⟩), .int .i64 n, .slice A nn c] W fun e w' => e = .returned (.tuple #[.int .u64 (resV (evP p.T vs n)).1, .int .i64 (resV (evP p.T vs n)).2]) ∧ Below W.heap.size W w' := by
 have HP := hide h
 have HR := hide hr
 have HX := hide (And.intro hl (And.intro hc (And.intro hs hu)))
 have HI := hide hI
 clear h hr hl hc hs hu hI
 go_enter Tryz.func26, Tryz.ntmps26
 go_wp2_with (first
  | (refine wpList_makeMap (Value.int .i64) I64 3 rfl 127 rfl ?_
     intro w1 gm hgm hm hb
     have HM := hide hm
     have HG := hide hgm
     have HB := hide hb
     clear hm hb hgm)
  | fail)
 have hF : EvF base g F p vs A nn c W.heap.size gm [] w1 :=
  ⟨HP.out.below HB.out, HR.out.below HB.out, HX.out.1, HX.out.2.1, HX.out.2.2.1, HX.out.2.2.2, HM.out.congr fun x => rfl, ⟨fun q => by have := (HP.out.fb _ q).2; have := HG.out; omega, HG.out⟩, List.nodup_nil, fun i hi => absurd hi (by simp), fun i hi => absurd hi (by simp)⟩
 have hall := eval_all (base := base) (g := g) (F := F) (p := p) (vs := vs) (A := A) (nn := nn) (c := c) (B := W.heap.size) (gm := gm) (n.toNat + 1) n HI.out (by omega) [] w1 hF
 refine hall.mono ?_
 rintro e w2 ⟨L, rfl, _, hc, _⟩
 have HC := hide (HB.out.trans (hc.below (B := W.heap.size) (fun b q => q ▸ HG.out) HB.out.size))
 clear hF hall hc
 go_wp2
 go_ret2
 exact ⟨rfl, HC.out⟩
end
/-- What the document says of x + 3 + 4, and of x Xor x. -/
def wT1 : List TD := [varT 0 64]
def wT4 : List TD := [varT 0 64, constT 3, constT 4, constT 7]
def wT5 : List TD := [varT 0 64, constT 3, constT 4, constT 7, opT 0 64 0 1]
def wT6 : List TD := [varT 0 64, constT 3, constT 4, constT 7, opT 0 64 0 1, opT 0 64 0 3]
def wT7 : List TD := [varT 0 64, constT 3, constT 4, constT 7, opT 0 64 0 1, opT 0 64 0 3, constT 0]
end Go.Proofs.YtepagfkkjlbipaaGreat
