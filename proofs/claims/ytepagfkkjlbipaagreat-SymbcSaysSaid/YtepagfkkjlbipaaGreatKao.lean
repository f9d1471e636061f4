/-
  What was made is made again: conditions, choices, all of them. Conditions: those written in each statement.
  What norm refuses of terms that are there: nothing but a limit. Conditions: those written in each statement.
  symbc in plain words: the machine that goes through a block. Conditions: those written in each statement.
  What commutes is one term either way. Conditions: those written in each statement.
  What commutes is one term either way: operations and conditions. Conditions: those written in each statement.
-/
import Derived.Test.YtepagfkkjlbipaaGreatKan
import Derived.Test.YtepagfkkjlbipaaGreatKai
section
namespace Go.Proofs.YtepagfkkjlbipaaGreat
open Go.RowKit
set_option linter.unusedVariables false
set_option linter.unusedSimpArgs false
set_option maxRecDepth 100000
theorem and_cong {a b c : Bool} (h : a = true → b = c) : (a && b) = (a && c) := by
 cases a
 ·rfl
 ·rw [h rfl]
end Go.Proofs.YtepagfkkjlbipaaGreat
end
section
namespace Go.Proofs.YtepagfkkjlbipaaGreat
open Go.RowKit
set_option linter.unusedVariables false
set_option linter.unusedSimpArgs false
set_option maxRecDepth 100000
def E0 (r : RS) : Prop := r.2.2 = 0 ∨ r.2.2 = 260
theorem E0.same (p : PS) (n : Int) : E0 (p, n, 0) := .inl rfl
theorem E0.const (p : PS) (n : Int) : E0 (putR p (constT n)) := put_errs (okP_const _ _)
theorem E0.bind {r s : RS} {k : PS → Int → Option RS} (h : E0 r) (hk : r.2.2 = 0 → ∀ s, k r.1 r.2.1 = some s → E0 s) (hs : bindR r k = some s) : E0 s := by
 unfold bindR at hs
 split at hs
 ·rename_i h0; exact hk h0 s hs
 ·injection hs with hs
  subst hs
  exact h
end Go.Proofs.YtepagfkkjlbipaaGreat
end
section
namespace Go.Proofs.YtepagfkkjlbipaaGreat
open Go.RowKit
set_option linter.unusedVariables false
set_option linter.unusedSimpArgs false
set_option maxRecDepth 100000
/-- What Op comes to, whatever fuel reaches. -/
noncomputable def opV (p : PS) (op x a b : Int) : RS := open Classical in if h : ∃ r, ∃ f, opF f p op x a b = some r then Classical.choose h else (p, 0, 2)
theorem opV_of {f : Nat} {p : PS} {op x a b : Int} {r : RS} (h : opF f p op x a b = some r) : opV p op x a b = r := by
 have hx : ∃ r, ∃ f, opF f p op x a b = some r := ⟨r, f, h⟩
 unfold opV
 rw [dif_pos hx]
 obtain ⟨g, hg⟩ := Classical.choose_spec hx
 have h1 := opF_mono g (g := max f g) p op x a b _ (Nat.le_max_right _ _) hg
 have h2 := opF_mono f (g := max f g) p op x a b _ (Nat.le_max_left _ _) h
 rw [h1] at h2
 exact Option.some.inj h2
theorem opV_some {p : PS} (hw : WfP p) (hr : ∀ t ∈ p.T, t.wf) (op x a b : Int) : ∃ f, opF f p op x a b = some (opV p op x a b) := by
 obtain ⟨f, r, h⟩ := op_some op x p hw hr a b
 exact ⟨f, by rw [opV_of h]; exact h⟩
def zextV (p : PS) (x a : Int) : RS := (zextO (a.toNat + 1) p x a).getD (p, 0, 2)
theorem zextV_some {p : PS} (hw : WfP p) (x a : Int) : zextO (a.toNat + 1) p x a = some (zextV p x a) := by
 obtain ⟨r, h⟩ := zextO_some hw x a
 unfold zextV
 rw [h]
 rfl
def condV (p : PS) (cc x a b : Int) : RS := (condF 2 p cc x a b).getD (p, 0, 2)
theorem condV_some (p : PS) (cc x a b : Int) : condF 2 p cc x a b = some (condV p cc x a b) := by
 obtain ⟨r, h⟩ := cond_some p cc x a b
 unfold condV
 rw [h]
 rfl
/-- An event. -/
structure EvD where
 kind : Int
 size : Int
 a : Int
 v : Int
 num : Int
 args : List Int
deriving DecidableEq
def bringB (e : EvD) : Bool := e.kind == 0 || e.kind == 2
def bringsN (l : List EvD) : Nat := (l.filter bringB).length
/-- An exit. -/
structure ExD where
 kind : Int
 v : Int
 tgt : Int
 els : Int
deriving DecidableEq
/-- The machine: its pool, the registers' terms, the events, the first error. -/
structure SM where
 p : PS
 regs : List Int
 evs : List EvD
 err : Int
def SM.keep (m : SM) (r : RS) : SM × Int := (⟨r.1, m.regs, m.evs, if m.err = 0 then r.2.2 else m.err⟩, r.2.1)
def SM.reg (m : SM) (i : Int) : Int := m.regs.getD i.toNat 0
def SM.set (m : SM) (i n : Int) : SM := { m with regs := m.regs.set i.toNat n }
def SM.event (m : SM) (e : EvD) : SM := { m with evs := m.evs ++ [e] }
def SM.num (m : SM) (n : Int) : SM × Int := m.keep (putR m.p (constT (IntKind.u64.wrap n)))
def SM.next (m : SM) (wide : Int) : SM × Int := m.keep (putR m.p (varT (38 + 3 * (bringsN m.evs : Int)) wide))
def SM.second (m : SM) (x : ID) : SM × Int :=
 if x.byReg = true then (m, m.reg x.src)
 else if x.kind = 0 ∧ shiftsB x.op = true then m.num (bits .and .i64 x.imm (x.width - 1))
 else m.num x.imm
noncomputable def SM.place (m : SM) (reg off : Int) : SM × Int := (m.num off).1.keep (opV (m.num off).1.p 0 64 (m.reg reg) (m.num off).2)
noncomputable def SM.alu (m : SM) (x : ID) : SM :=
 let q := m.second x
 let s := q.1.keep (opV q.1.p x.op x.width (m.reg x.dst) q.2)
 s.1.set x.dst s.2
noncomputable def SM.load (m : SM) (x : ID) : SM :=
 let q := m.place x.src x.off
 let v := q.1.next (8 * x.size)
 (v.1.event ⟨0, x.size, q.2, v.2, 0, []⟩).set x.dst v.2
noncomputable def SM.store (m : SM) (x : ID) : SM :=
 let q := m.place x.dst x.off
 let v := q.1.keep (zextV q.1.p (8 * x.size) (m.reg x.src))
 v.1.event ⟨1, x.size, q.2, v.2, 0, []⟩
/-- r1 to r5 all the same. -/
def fiveL (l : List Int) (n : Int) : List Int := ((((l.set 1 n).set 2 n).set 3 n).set 4 n).set 5 n
def SM.call (m : SM) (x : ID) : SM :=
 let v := m.next 64
 let e := (v.1.event ⟨2, 0, 0, v.2, x.imm, (m.regs.drop 1).take (argsN x.imm).toNat⟩).set 0 v.2
 let z := e.num 0
 { z.1 with regs := fiveL z.1.regs z.2 }
noncomputable def SM.step (m : SM) (x : ID) : SM :=
 if m.err ≠ 0 then m
 else if x.kind = 0 then m.alu x
 else if x.kind = 1 then m.load x
 else if x.kind = 2 then m.store x
 else if x.kind = 5 then m.call x
 else m
noncomputable def SM.go (m : SM) : List ID → SM
 | [] => m
 | x :: r => (m.step x).go r
/-- A condition on two terms: a test of bits asks whether their And is another than nought. -/
noncomputable def SM.ask (m : SM) (cc a b : Int) : SM × Int :=
 if cc = 10 then
  let t := m.keep (opV m.p 5 64 a b)
  let z := t.1.num 0
  z.1.keep (condV z.1.p 1 64 t.2 z.2)
 else m.keep (condV m.p cc 64 a b)
/-- The exit; next: the blocks that are next. -/
noncomputable def SM.ends (m : SM) (x : ID) (next : List Int) : SM × ExD :=
 if x.kind = 6 then (m, ⟨0, m.reg 0, 0, 0⟩)
 else if x.kind = 3 ∧ next.getD 0 0 ≠ next.getD 1 0 then
  let q := m.second x
  let c := q.1.ask x.op (m.reg x.dst) q.2
  (c.1, ⟨2, c.2, next.getD 0 0, next.getD 1 0⟩)
 else (m, ⟨1, 0, next.getD 0 0, 0⟩)
end Go.Proofs.YtepagfkkjlbipaaGreat
end
section
namespace Go.Proofs.YtepagfkkjlbipaaGreat
open Go.RowKit
set_option linter.unusedVariables false
set_option linter.unusedSimpArgs false
set_option maxRecDepth 100000
/-- No cut is a cut of a constant or of a cut. -/
def NZ (p : PS) : Prop := ∀ n : Int, hasB p.T n = true → (atP p.T n).kind = 3 → (atP p.T (atP p.T n).a).kind ≠ 0 ∧ (atP p.T (atP p.T n).a).kind ≠ 3
/-- What norm puts. -/
def Al (q : PS) (t : TD) : Prop := t.kind ≠ 3 ∨ ∃ w a, t = zextT w a ∧ hasB q.T a = true ∧ (atP q.T a).kind ≠ 0 ∧ (atP q.T a).kind ≠ 3
theorem NZ.put {p : PS} (h : NZ p) (hw : WfP p) {t : TD} (ht : Al p t) : NZ (putP p t) := by
 intro n hn hk
 rcases putP_cases p t with ⟨e, _⟩ | ⟨hok, _, _, _, e, _⟩
 ·rw [e] at hn hk ⊢; exact h n hn hk
 ·have he : Ext p (putP p t) := Ext.put p t
  cases hb : hasB p.T n
  ·-- the new one
   have hn2 : n = (p.T.length : Int) := by
    rw [e] at hn
    unfold hasB at hn hb
    simp at hn hb
    omega
   have hat : atP (putP p t).T n = t := by
    unfold atP
    rw [if_pos hn, e, hn2]
    simp
   rw [hat] at hk ⊢
   rcases ht with ht | ⟨w, a, rfl, ha, k0, k3⟩
   ·exact absurd hk ht
   ·show (atP (putP p (zextT w a)).T a).kind ≠ 0 ∧ (atP (putP p (zextT w a)).T a).kind ≠ 3
    rw [he.at_ ha]
    exact ⟨k0, k3⟩
  ·rw [he.at_ hb] at hk ⊢
   rw [he.at_ (has_part hw hb hk).2.2]
   exact h n hb hk
theorem NZ.nil : NZ ⟨[], []⟩ := fun n hn => by unfold hasB at hn; simp at hn; omega
theorem NZ.bind {p : PS} {r s : RS} {k : PS → Int → Option RS} (h : NZ r.1) (hk : r.2.2 = 0 → ∀ s, k r.1 r.2.1 = some s → NZ s.1) (hs : bindR r k = some s) : NZ s.1 := by
 unfold bindR at hs
 split at hs
 ·rename_i h0; exact hk h0 s hs
 ·injection hs with hs; subst hs; exact h
theorem NZ.putR {p : PS} (h : NZ p) (hw : WfP p) {t : TD} (ht : t.kind ≠ 3) : NZ (putR p t).1 := h.put hw (.inl ht)
theorem operand_nz {p : PS} (hz : NZ p) (hw : WfP p) (x a : Int) : NZ (operandP p x a).1 := by
 rcases operand_cases p x a with ⟨_, e⟩ | ⟨_, e⟩ | ⟨_, e⟩
 ·rw [e]; exact hz.putR hw (by show (0 : Int) ≠ 3; decide)
 ·rw [e]; exact hz
 ·rw [e]; exact hz
theorem both_nz {p : PS} (hz : NZ p) (hw : WfP p) (hr : ∀ t ∈ p.T, t.wf) {a b : Int} (ha : I64 a) (x : Int) : NZ (bothP p x a b).1 := by
 have h1 := operand_nz hz hw x a
 have h2 := (operand_i64 hw hr ha x).2.1
 unfold bothP
 dsimp only
 split
 ·exact operand_nz h1 h2 x b
 ·exact h1
end Go.Proofs.YtepagfkkjlbipaaGreat
end
section
namespace Go.Proofs.YtepagfkkjlbipaaGreat
open Go.RowKit
set_option linter.unusedVariables false
set_option linter.unusedSimpArgs false
set_option maxRecDepth 100000
end Go.Proofs.YtepagfkkjlbipaaGreat
end
