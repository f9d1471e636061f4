/-
  Parts of the proof of SymbcSound. Conditions: those written in each statement.
-/
import Derived.Test.YtepagfkkjlbipaaGreatKar
import Derived.Test.YtepagfkkjlbipaaGreatKaj
set_option linter.unusedVariables false
set_option linter.unusedSimpArgs false
set_option maxHeartbeats 64000000
set_option maxRecDepth 100000
namespace Go.Proofs.YtepagfkkjlbipaaGreat
section
open Go.RowKit
theorem has_ix {T : List TD} {n : Int} (h : hasB T n = true) : ∃ i : Nat, n = (i : Int) ∧ T[i]? = some (atP T n) := by
 obtain ⟨k, h1, h2⟩ := atP_yes h
 exact ⟨k, h1, h2⟩
theorem putN_okP {p : PS} {t : TD} (h : (putN p t).2 = 0) : okP p.T t = true := by
 unfold putN at h
 split at h
 ·cases h
 ·rename_i h1; simpa using h1
theorem put_again {p q : PS} (hq : WfP q) {t : TD} (h : (putN p t).2 = 0) (he : Ext (putP p t) q) : putP q t = q ∧ putN q t = ((putN p t).1, 0) := by
 have h1 := put_at h
 obtain ⟨i, hi, hT⟩ := has_ix (he.has h1.1)
 rw [he.at_ h1.1, h1.2] at hT
 have := put_there hq hT
 rw [hi]
 exact this
inductive ZD (T : List TD) (w : Int) : Int → (Int ⊕ TD) → Prop where
 | all {a : Int} (h : w = 64) : ZD T w a (.inl a)
 | const {a : Int} (h : w ≠ 64) (k : (atP T a).kind = 0) : ZD T w a (.inr (constT (cutV w (atP T a).n)))
 | thin {a : Int} (h : w ≠ 64) (k : (atP T a).kind ≠ 0) (n : narrowP T a w = true) : ZD T w a (.inl a)
 | deep {a : Int} {d : Int ⊕ TD} (h : w ≠ 64) (k : (atP T a).kind = 3) (n : narrowP T a w = false) (r : ZD T w (atP T a).a d) : ZD T w a d
 | put {a : Int} (h : w ≠ 64) (k : (atP T a).kind ≠ 0) (k3 : (atP T a).kind ≠ 3) (n : narrowP T a w = false) : ZD T w a (.inr (zextT w a))
def resD (p : PS) : Int ⊕ TD → RS
 | .inl n => (p, n, 0)
 | .inr t => putR p t
def Wd4 (w : Int) : Prop := w = 8 ∨ w = 16 ∨ w = 32 ∨ w = 64
theorem cut_cut {v w n : Int} (hv : Wd4 v) (hw : Wd4 w) (hn : U64 n) : cutV w (cutV v n) = cutV (min v w) n := by
 unfold U64 at hn
 rcases hv with rfl | rfl | rfl | rfl <;> rcases hw with rfl | rfl | rfl | rfl <;> simp [cutV] <;> omega
section
variable {p p1 p2 p3 : PS} {v w x one two least : Int} {d1 d2 d3 : Int ⊕ TD}
end
end
section
open Go.RowKit
theorem okP_const (T : List TD) (n : Int) : okP T (constT n) = true := by
 unfold okP okF askT likeT clashB prtL constT
 simp
theorem okP_zext {p : PS} {w a : Int} (hw : Wd4 w) (h64 : w ≠ 64) (ha : hasB p.T a = true) : okP p.T (zextT w a) = true := by
 unfold okP okF askT likeT clashB prtL zextT
 simp [ha]
 unfold wdB
 rcases hw with rfl | rfl | rfl | rfl <;> simp at *
theorem zextO_some {p : PS} (hw : WfP p) (w a : Int) : ∃ r, zextO (a.toNat + 1) p w a = some r := by
 unfold zextO
 split
 ·exact ⟨_, rfl⟩
 ·exact zextF_some hw w _ a (by omega)
theorem zextO_good {p : PS} (hw : WfP p) (hr : ∀ t ∈ p.T, t.wf) {f : Nat} {w a : Int} {r : RS} (hx : I8 w) (h : zextO f p w a = some r) : Good p r := by
 unfold zextO at h
 split at h
 ·injection h with h; subst h; exact Good.err hw hr 0 (by decide)
 ·rename_i hz
  have hz : hasB p.T a = true ∧ wdB w = true := by simpa using hz
  exact zext_good f hw hr hx hz.1 h
theorem zextO_yes {p : PS} {f : Nat} {w a : Int} {r : RS} (ha : hasB p.T a = true) (hw : wdB w = true) (h : zextO f p w a = some r) : zextF f p w a = some r := by
 unfold zextO at h
 rw [if_neg (by rw [ha, hw]; simp)] at h
 exact h
end
section
open Go.RowKit
theorem has_prt {p : PS} (hw : WfP p) {n k : Int} (hn : hasB p.T n = true) (hk : k ∈ prtL (atP p.T n)) : hasB p.T k = true := by
 have h := part_less hw hn hk
 unfold hasB at *
 simp at hn ⊢
 omega
theorem putR_again {p q : PS} (hq : WfP q) {t : TD} (h : (putR p t).2.2 = 0) (he : Ext (putR p t).1 q) : putR q t = (q, (putR p t).2.1, 0) := by
 have := put_again hq (p := p) (t := t) h he
 unfold putR
 rw [this.1, this.2]
theorem operand_again {p q : PS} (hq : WfP q) {x a : Int} (h0 : (operandP p x a).2.2 = 0) (ha : hasB p.T a = true) (hpq : Ext p q) (he : Ext (operandP p x a).1 q) : operandP q x a = (q, (operandP p x a).2.1, 0) := by
 have ea := hpq.at_ ha
 unfold operandP at h0 he ⊢
 dsimp only at h0 he ⊢
 rw [ea]
 by_cases h1 : (atP p.T a).kind = 0
 ·rw [if_pos h1] at h0 he ⊢
  rw [if_pos h1]
  exact putR_again hq h0 he
 ·rw [if_neg h1] at h0 he ⊢
  rw [if_neg h1]
  by_cases h2 : x = 32 ∧ (atP p.T a).kind = 3 ∧ (atP p.T a).w = 32
  ·rw [if_pos h2, if_pos h2]
  ·rw [if_neg h2, if_neg h2]
theorem both_again {p q : PS} (hw : WfP p) (hq : WfP q) {x a b : Int} (h0 : (bothP p x a b).2.2.2 = 0) (ha : hasB p.T a = true) (hb : hasB p.T b = true) (hpq : Ext p q) (he : Ext (bothP p x a b).1 q) : bothP q x a b = (q, (bothP p x a b).2.1, (bothP p x a b).2.2.1, 0) := by
 unfold bothP at h0 he ⊢
 dsimp only at h0 he ⊢
 by_cases h1 : (operandP p x a).2.2 = 0
 ·rw [if_pos h1] at h0 he ⊢
  dsimp only at h0 he ⊢
  have e1 := operand_ext p x a
  have e2 := operand_ext (operandP p x a).1 x b
  have o1 := operand_again hq h1 ha hpq (e2.trans he)
  have o2 := operand_again hq h0 (e1.has hb) (e2.trans he) he
  rw [o1]
  dsimp only
  rw [if_pos rfl, o2]
 ·rw [if_neg h1] at h0
  exact absurd h0 h1
end
section
open Go.RowKit
theorem and_cong {a b c : Bool} (h : a = true → b = c) : (a && b) = (a && c) := by
 cases a
 ·rfl
 ·rw [h rfl]
end
section
open Go.RowKit
def E0 (r : RS) : Prop := r.2.2 = 0 ∨ r.2.2 = 260
theorem okP_op {p : PS} {op x a b : Int} (h : doOk op x = true) (ha : hasB p.T a = true) (hb : hasB p.T b = true) : okP p.T (opT op x a b) = true := by
 have hd := doOk_yes h
 unfold okP okF askT likeT clashB prtL opT
 simp [ha, hb]
 omega
theorem okP_cond {p : PS} {cc x a b : Int} (h : holdsOk cc x = true) (ha : hasB p.T a = true) (hb : hasB p.T b = true) : okP p.T (condT cc x a b) = true := by
 have hd := holdsOk_yes h
 unfold okP okF askT likeT clashB prtL condT
 simp [ha, hb]
 omega
end
section
open Go.RowKit
noncomputable def opV (p : PS) (op x a b : Int) : RS := open Classical in if h : ∃ r, ∃ f, opF f p op x a b = some r then Classical.choose h else (p, 0, 2)
theorem opV_of {f : Nat} {p : PS} {op x a b : Int} {r : RS} (h : opF f p op x a b = some r) : opV p op x a b = r := by
 have hx : ∃ r, ∃ f, opF f p op x a b = some r := ⟨r, f, h⟩
 unfold opV
 rw [dif_pos hx]
 obtain ⟨g, hg⟩ := Classical.choose_spec hx
 have h1 := opF_mono g (g := max f g) p op x a b _ (Nat.le_max_right _ _) hg
 have h2 := opF_mono f (g := max f g) p op x a b _ (Nat.le_max_left _ _) h
 rw [h1] at h2
 exact Option.some.inj h2
theorem opV_some {p : PS} (hw : WfP p) (hr : ∀ t ∈ p.T, t.wf) (op x a b : Int) : ∃ f, opF f p op x a b = some (opV p op x a b) := by
 obtain ⟨f, r, h⟩ := op_some op x p hw hr a b
 exact ⟨f, by rw [opV_of h]; exact h⟩
def zextV (p : PS) (x a : Int) : RS := (zextO (a.toNat + 1) p x a).getD (p, 0, 2)
theorem zextV_some {p : PS} (hw : WfP p) (x a : Int) : zextO (a.toNat + 1) p x a = some (zextV p x a) := by
 obtain ⟨r, h⟩ := zextO_some hw x a
 unfold zextV
 rw [h]
 rfl
def condV (p : PS) (cc x a b : Int) : RS := (condF 2 p cc x a b).getD (p, 0, 2)
theorem condV_some (p : PS) (cc x a b : Int) : condF 2 p cc x a b = some (condV p cc x a b) := by
 obtain ⟨r, h⟩ := cond_some p cc x a b
 unfold condV
 rw [h]
 rfl
structure EvD where
 kind : Int
 size : Int
 a : Int
 v : Int
 num : Int
 args : List Int
deriving DecidableEq
def bringB (e : EvD) : Bool := e.kind == 0 || e.kind == 2
def bringsN (l : List EvD) : Nat := (l.filter bringB).length
structure ExD where
 kind : Int
 v : Int
 tgt : Int
 els : Int
deriving DecidableEq
structure SM where
 p : PS
 regs : List Int
 evs : List EvD
 err : Int
def SM.keep (m : SM) (r : RS) : SM × Int := (⟨r.1, m.regs, m.evs, if m.err = 0 then r.2.2 else m.err⟩, r.2.1)
def SM.reg (m : SM) (i : Int) : Int := m.regs.getD i.toNat 0
def SM.set (m : SM) (i n : Int) : SM := { m with regs := m.regs.set i.toNat n }
def SM.event (m : SM) (e : EvD) : SM := { m with evs := m.evs ++ [e] }
def SM.num (m : SM) (n : Int) : SM × Int := m.keep (putR m.p (constT (IntKind.u64.wrap n)))
def SM.next (m : SM) (wide : Int) : SM × Int := m.keep (putR m.p (varT (38 + 3 * (bringsN m.evs : Int)) wide))
def SM.second (m : SM) (x : ID) : SM × Int :=
 if x.byReg = true then (m, m.reg x.src)
 else if x.kind = 0 ∧ shiftsB x.op = true then m.num (bits .and .i64 x.imm (x.width - 1))
 else m.num x.imm
noncomputable def SM.place (m : SM) (reg off : Int) : SM × Int := (m.num off).1.keep (opV (m.num off).1.p 0 64 (m.reg reg) (m.num off).2)
noncomputable def SM.alu (m : SM) (x : ID) : SM :=
 let q := m.second x
 let s := q.1.keep (opV q.1.p x.op x.width (m.reg x.dst) q.2)
 s.1.set x.dst s.2
noncomputable def SM.load (m : SM) (x : ID) : SM :=
 let q := m.place x.src x.off
 let v := q.1.next (8 * x.size)
 (v.1.event ⟨0, x.size, q.2, v.2, 0, []⟩).set x.dst v.2
noncomputable def SM.store (m : SM) (x : ID) : SM :=
 let q := m.place x.dst x.off
 let v := q.1.keep (zextV q.1.p (8 * x.size) (m.reg x.src))
 v.1.event ⟨1, x.size, q.2, v.2, 0, []⟩
def fiveL (l : List Int) (n : Int) : List Int := ((((l.set 1 n).set 2 n).set 3 n).set 4 n).set 5 n
def SM.call (m : SM) (x : ID) : SM :=
 let v := m.next 64
 let e := (v.1.event ⟨2, 0, 0, v.2, x.imm, (m.regs.drop 1).take (argsN x.imm).toNat⟩).set 0 v.2
 let z := e.num 0
 { z.1 with regs := fiveL z.1.regs z.2 }
noncomputable def SM.step (m : SM) (x : ID) : SM :=
 if m.err ≠ 0 then m
 else if x.kind = 0 then m.alu x
 else if x.kind = 1 then m.load x
 else if x.kind = 2 then m.store x
 else if x.kind = 5 then m.call x
 else m
noncomputable def SM.go (m : SM) : List ID → SM
 | [] => m
 | x :: r => (m.step x).go r
noncomputable def SM.ask (m : SM) (cc a b : Int) : SM × Int :=
 if cc = 10 then
  let t := m.keep (opV m.p 5 64 a b)
  let z := t.1.num 0
  z.1.keep (condV z.1.p 1 64 t.2 z.2)
 else m.keep (condV m.p cc 64 a b)
noncomputable def SM.ends (m : SM) (x : ID) (next : List Int) : SM × ExD :=
 if x.kind = 6 then (m, ⟨0, m.reg 0, 0, 0⟩)
 else if x.kind = 3 ∧ next.getD 0 0 ≠ next.getD 1 0 then
  let q := m.second x
  let c := q.1.ask x.op (m.reg x.dst) q.2
  (c.1, ⟨2, c.2, next.getD 0 0, next.getD 1 0⟩)
 else (m, ⟨1, 0, next.getD 0 0, 0⟩)
end
end Go.Proofs.YtepagfkkjlbipaaGreat
