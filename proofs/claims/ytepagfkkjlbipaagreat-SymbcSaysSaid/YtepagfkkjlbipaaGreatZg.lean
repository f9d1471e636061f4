/-
  The machine within its limits refuses nothing; gone through again, it comes to the same. Conditions: those written in each statement.
-/
import Derived.Test.YtepagfkkjlbipaaGreatKas
import Derived.Test.YtepagfkkjlbipaaGreatKap
namespace Go.Proofs.YtepagfkkjlbipaaGreat
open Go.RowKit
set_option linter.unusedVariables false
set_option linter.unusedSimpArgs false
set_option maxRecDepth 100000
/-! ### variables' numbers -/
def VI (c : Int) (p : PS) : Prop := ∀ t ∈ p.T, t.kind = 1 → t.n < c
theorem VI.mem {p : PS} {t u : TD} (h : u ∈ (putP p t).T) : u ∈ p.T ∨ u = t := by
 rcases putP_cases p t with ⟨e, _⟩ | ⟨_, _, _, _, e, _⟩
 ·rw [e] at h; exact .inl h
 ·rw [e] at h
  simpa using h
theorem VI.mono {c d : Int} {p : PS} (h : VI c p) (hc : c ≤ d) : VI d p := fun t ht hk => by have := h t ht hk; omega
theorem VI.new {c : Int} {p : PS} (h : VI c p) (x : Int) : VI (c + 1) (putP p (varT c x)) := fun u hu hk => (VI.mem hu).elim (fun hu => by have := h u hu hk; omega) (fun e => by subst e; show c < c + 1; omega)
/-! ### what is put within the limits -/
structure PSt (p : PS) (r : RS) (k : Nat) (d c : Int) : Prop where
 err : r.2.2 = 0
 rm : Rm r.1 k
 ext : Ext p r.1
 has : hasB r.1.T r.2.1 = true
 low : dpP r.1 r.2.1 ≤ d
 vi : VI c r.1
theorem PSt.more {p : PS} {r : RS} {k j : Nat} {d e c : Int} (h : PSt p r k d c) (hj : j ≤ k) (hd : d ≤ e) : PSt p r j e c := ⟨h.err, h.rm.less hj, h.ext, h.has, by have := h.low; omega, h.vi⟩
/-! ### again -/
/-! ### the machine -/
structure MI (m : SM) (k : Nat) (d : Int) : Prop where
 rm : Rm m.p k
 len : m.regs.length = 11
 reg : ∀ r ∈ m.regs, hasB m.p.T r = true ∧ dpP m.p r ≤ d
 err : m.err = 0
 vi : VI (38 + 3 * (bringsN m.evs : Int)) m.p
theorem MI.at_ {m : SM} {k : Nat} {d : Int} (h : MI m k d) {i : Int} (hi : 0 ≤ i ∧ i ≤ 10) : hasB m.p.T (m.reg i) = true ∧ dpP m.p (m.reg i) ≤ d := by
 refine h.reg _ ?_
 unfold SM.reg
 rw [List.getD_eq_getElem?_getD, List.getElem?_eq_getElem (by rw [h.len]; omega)]
 exact List.getElem_mem _
/-- The other operand. -/
structure SecI (m : SM) (q : SM × Int) (k : Nat) (d : Int) : Prop where
 rm : Rm q.1.p k
 ext : Ext m.p q.1.p
 has : hasB q.1.p.T q.2 = true
 low : dpP q.1.p q.2 ≤ d
 vi : VI (38 + 3 * (bringsN m.evs : Int)) q.1.p
 eq : q.1 = ⟨q.1.p, m.regs, m.evs, 0⟩
/-! ### the machine again -/
def SM.on (m : SM) (q : PS) : SM := ⟨q, m.regs, m.evs, m.err⟩
end Go.Proofs.YtepagfkkjlbipaaGreat
