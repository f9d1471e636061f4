/-
  A region that draws its order, reads cells, and writes them at its end: loads may be taken first, under a condition on the world that holds till the writes begin. Conditions: those written in each statement.
-/
import Derived.Test.YtepagfkkjlbipaaGreatKit
import Derived.OrdersHeld
import Derived.Deep.RegionHeld
import Derived.BigRegion
namespace Go.Proofs.YtepagfkkjlbipaaGreat
set_option linter.unusedVariables false
set_option linter.unusedSimpArgs false
section
variable {P : Program} {ops : Array Oper} {Q : Exit → Act → World → Prop} {md : Region.Mode} {T S : World → Prop} {late : List Nat}
def noneB (late : List Nat) (listed : Array Bool) : Bool := late.all fun j => !listed.getD j true
/-- T holds throughout, S till the first of the late ones. -/
def St (T S : World → Prop) (late : List Nat) (listed : Array Bool) (w : World) : Prop := T w ∧ (noneB late listed = true → S w)
theorem St.both {listed : Array Bool} {w : World} (h1 : T w) (h2 : S w) : St T S late listed w := ⟨h1, fun _ => h2⟩
theorem St.after {listed : Array Bool} {w : World} (h1 : T w) (h2 : noneB late listed = false) : St T S late listed w := ⟨h1, fun h => by rw [h2] at h; cases h⟩
/-- Whatever order is picked from here on. -/
def wpAnyE (P : Program) (md : Region.Mode) (ops : Array Oper) (Q : Exit → Act → World → Prop) (T S : World → Prop) (late : List Nat) : Nat → Array Bool → Act → World → Prop
 | 0, listed, a, w => Region.ready md ops listed = [] ∧ Q .normal a w
 | fuel + 1, listed, a, w =>
  (Region.ready md ops listed = [] → Q .normal a w) ∧
  ∀ i ∈ Region.ready md ops listed, wpOp P ops Q i (fun a' w' => St T S late (listed.setIfInBounds i true) w' ∧ wpAnyE P md ops Q T S late fuel (listed.setIfInBounds i true) a' w') a w
theorem wpAny_of_E : ∀ (fuel : Nat) (listed : Array Bool) (a : Act) (w : World), wpAnyE P md ops Q T S late fuel listed a w → wpAny P md ops Q fuel listed a w
 | 0, _, _, _, h => h
 | fuel + 1, _, _, _, h => ⟨h.1, fun i hi => wpOp_mono (fun a' w' h' => wpAny_of_E fuel _ a' w' h'.2) (h.2 i hi)⟩
/-- The late ones wait: for i, or for one another. -/
def lateB (md : Region.Mode) (ops : Array Oper) (late : List Nat) (i : Nat) : Bool :=
 late.all fun j => match ops[j]? with
  | some oj => oj.after.any (fun e => Region.binds md e && (e.on == i || late.contains e.on))
  | none => true
theorem early {i j : Nat} {listed : Array Bool} (hl : lateB md ops late i = true) (hn : noneB late listed = true) (hi : listed.getD i true = false) (hj : j ∈ Region.ready md ops listed) : late.contains j = false := by
 cases hc : late.contains j
 ·rfl
 ·exfalso
  unfold lateB at hl
  simp only [List.all_eq_true] at hl
  obtain ⟨_, oj, hoj, hall⟩ := mem_ready.1 hj
  have h1 := hl j (by simpa using hc)
  rw [hoj] at h1
  obtain ⟨e, he, hb⟩ := Array.any_eq_true'.1 h1
  simp only [Bool.and_eq_true, Bool.or_eq_true, beq_iff_eq] at hb
  have h2 := hall e he hb.1
  rcases hb.2 with q | q
  ·rw [q] at h2
   rcases Nat.lt_or_ge i listed.size with h' | h'
   ·simp [h'] at h2 hi; rw [hi] at h2; cases h2
   ·simp [Array.getElem?_eq_none h'] at h2
  ·unfold noneB at hn
   rw [List.all_eq_true] at hn
   have := hn e.on (by simpa using q)
   rcases Nat.lt_or_ge e.on listed.size with h' | h'
   ·simp [h'] at h2 this; rw [h2] at this; cases this
   ·simp [Array.getElem?_eq_none h'] at h2
theorem none_set {j : Nat} {listed : Array Bool} (hn : noneB late listed = true) (hc : late.contains j = false) : noneB late (listed.setIfInBounds j true) = true := by
 unfold noneB at *
 rw [List.all_eq_true] at *
 intro k hk
 have hne : j ≠ k := by
  rintro rfl
  have : late.contains j = true := by simpa using hk
  rw [this] at hc
  cases hc
 rw [getD_set_ne true hne]
 exact hn k hk
theorem none_less {j : Nat} {listed : Array Bool} (hn : noneB late (listed.setIfInBounds j true) = true) : noneB late listed = true := by
 unfold noneB at *
 rw [List.all_eq_true] at *
 intro k hk
 have := hn k hk
 cases hg : listed.getD k true
 ·rfl
 ·by_cases hjk : j = k
  ·subst hjk
   rcases Nat.lt_or_ge j listed.size with h' | h'
   ·rw [Array.getD_eq_getD_getElem?, Array.getElem?_setIfInBounds_self_of_lt h'] at this
    cases this
   ·rw [Array.setIfInBounds_eq_of_size_le h', hg] at this
    cases this
  ·rw [getD_set_ne true hjk, hg] at this
   cases this
/-- What is asked where i is taken first: with b, S may be used. -/
def okE (md : Region.Mode) (ops : Array Oper) (late : List Nat) (listed : Array Bool) (i : Nat) (b : Bool) : Bool := !b || (lateB md ops late i && noneB late listed)
def SS (T S : World → Prop) (b : Bool) (w : World) : Prop := T w ∧ (b = true → S w)
theorem wpAnyE_first {i : Nat} {oi : Oper} {v : Value} (b : Bool) (hil : late.contains i = false) (hi : ops[i]? = some oi) (hsel : ∀ (j : Nat) (o : Oper) cs b, ops[j]? = some o → o.op ≠ .select cs b)
  (hQ : ∀ c a w, Q (.panic c) (a.put oi.dst v) w → Q (.panic c) a w) :
  ∀ (fuel : Nat) (listed : Array Bool) (a : Act) (w : World),
   (∀ j oj, ops[j]? = some oj → j ≠ i → listed.getD j true = false → (∀ e ∈ oj.after, Region.binds md e = true → e.on ≠ i) → oi.apart ops oj = true) →
   (b = true → lateB md ops late i = true ∧ noneB late listed = true) → i ∈ Region.ready md ops listed → YieldsIf P ops (SS T S b) oi v a → St T S late listed w →
   wpAnyE P md ops Q T S late fuel (listed.setIfInBounds i true) (a.put oi.dst v) w → wpAnyE P md ops Q T S late (fuel + 1) listed a w := by
 intro fuel
 induction fuel with
 | zero =>
  intro listed a w _ hb hr hy hS H
  refine ⟨fun h => (by rw [h] at hr; cases hr), fun j hj => ?_⟩
  by_cases hji : j = i
  ·subst hji; exact hy.wpOp hi ⟨hS.1, fun q => hS.2 (hb q).2⟩ ⟨⟨hS.1, fun q => hS.2 (none_less q)⟩, H⟩
  ·have := ready_mono hj hji
   rw [H.1] at this
   cases this
 | succ fuel ih =>
  intro listed a w hfree hb hr hy hS H
  refine ⟨fun h => (by rw [h] at hr; cases hr), fun j hj => ?_⟩
  by_cases hji : j = i
  ·subst hji; exact hy.wpOp hi ⟨hS.1, fun q => hS.2 (hb q).2⟩ ⟨⟨hS.1, fun q => hS.2 (none_less q)⟩, H⟩
  ·have h1 := H.2 j (ready_mono hj hji)
   obtain ⟨hjun, oj, hoj, hall⟩ := mem_ready.1 hj
   have hiu := (mem_ready.1 hr).1
   have hnot : ∀ e ∈ oj.after, Region.binds md e = true → e.on ≠ i := fun e he hb heq => by
    have h1 := hall e he hb
    have h0 := hiu
    rw [heq] at h1
    rcases Nat.lt_or_ge i listed.size with h' | h'
    ·simp [h'] at h0 h1; rw [h0] at h1; cases h1
    ·simp [Array.getElem?_eq_none h'] at h1
   have h2 := wpOp_putIf hoj (hfree j oj hoj hji hjun hnot) (fun cs b => hsel i oi cs b hi) (fun cs b => hsel j oj cs b hoj) hQ hy h1
   have hfree' : ∀ k ok, ops[k]? = some ok → k ≠ i → (listed.setIfInBounds j true).getD k true = false →
     (∀ e ∈ ok.after, Region.binds md e = true → e.on ≠ i) → oi.apart ops ok = true := fun k ok hk hki hun hno => by
    refine hfree k ok hk hki ?_ hno
    by_cases hjk : j = k
    ·subst hjk; exact hjun
    ·rw [getD_set_ne true hjk] at hun; exact hun
   refine wpOp_mono (fun a' w' h3 => ?_) h2
   have h4 : St T S late (listed.setIfInBounds j true) w' := ⟨h3.2.1.1, fun q => h3.2.1.2 (by
    rw [Array.setIfInBounds_comm _ _ (Ne.symm hji)]
    exact none_set q hil)⟩
   refine ⟨h4, ih (listed.setIfInBounds j true) a' w' hfree' (fun q => ⟨(hb q).1, none_set (hb q).2 (early (hb q).1 (hb q).2 hiu hj)⟩) (ready_mono hr (Ne.symm hji)) h3.1 h4 ?_⟩
   rw [Array.setIfInBounds_comm _ _ hji]
   exact h3.2.2
def opAt (ops : Array Oper) (i : Nat) : Option (Option Tmp × Op) := (ops[i]?).map fun o => (o.dst, o.op)
def wantAt (ops : Array Oper) (i : Nat) (a : Act) : Option Bool := (ops[i]?).map fun o => Region.wanted o (yielded ops a.tmps)
/-- All that is asked of a region where number i is taken first. -/
def checkE (md : Region.Mode) (ops : Array Oper) (late : List Nat) (listed : Array Bool) (i : Nat) (b : Bool) : Bool :=
 Region.noSelect ops && (Region.free md ops listed i && ((Region.ready md ops listed).contains i && (!late.contains i && (!b || (lateB md ops late i && noneB late listed)))))
theorem opAt_inv {i : Nat} {d : Option Tmp} {op : Op} (h : opAt ops i = some (d, op)) : ∃ o, ops[i]? = some o ∧ o.dst = d ∧ o.op = op := by
 unfold opAt at h
 cases e : ops[i]? with
 | none => rw [e] at h; cases h
 | some o =>
  rw [e] at h
  injection h with h
  injection h with h1 h2
  exact ⟨o, rfl, h1, h2⟩
theorem wantAt_inv {i : Nat} {a : Act} {b : Bool} {o : Oper} (h : wantAt ops i a = some b) (ho : ops[i]? = some o) : Region.wanted o (yielded ops a.tmps) = b := by
 unfold wantAt at h
 rw [ho] at h
 injection h
section
variable {fuel : Nat} {listed : Array Bool} {a : Act} {w : World}
theorem wpAnyE_take (b : Bool) {i : Nat} {oi : Oper} {v : Value} (hi : ops[i]? = some oi) (hc : checkE md ops late listed i b = true) (hQ : ∀ c a w, Q (.panic c) (a.put oi.dst v) w → Q (.panic c) a w) (hy : YieldsIf P ops (SS T S b) oi v a) (hS : St T S late listed w)
  (h : wpAnyE P md ops Q T S late fuel (listed.setIfInBounds i true) (a.put oi.dst v) w) : wpAnyE P md ops Q T S late (fuel + 1) listed a w := by
 unfold checkE at hc
 simp only [Bool.and_eq_true, Bool.or_eq_true, Bool.not_eq_true'] at hc
 obtain ⟨h1, h2, h3, h4, h5⟩ := hc
 exact wpAnyE_first b h4 hi (Region.noSelect_spec h1) hQ fuel listed a w (Region.free_spec hi h2) (fun q => by
  rcases h5 with h5 | h5
  ·rw [q] at h5; cases h5
  ·exact h5) (by simpa using h3) hy hS h
/-- Number i is taken first. -/
theorem E_any (b : Bool) (i : Nat) (d : Option Tmp) (op : Op) (v : Value) (ho : opAt ops i = some (d, op)) (hc : checkE md ops late listed i b = true) (hw : wantAt ops i a = some true) (hQ : ∀ c a w, Q (.panic c) (a.put d v) w → Q (.panic c) a w)
  (hy : ∀ o : Oper, o.op = op → ∀ w, SS T S b w → (execOp a.eval o).run P w = .ok (.value v) w) (hS : St T S late listed w) (h : wpAnyE P md ops Q T S late fuel (listed.setIfInBounds i true) (a.put d v) w) : wpAnyE P md ops Q T S late (fuel + 1) listed a w := by
 obtain ⟨o, h1, h2, h3⟩ := opAt_inv ho
 subst h2
 exact wpAnyE_take b h1 hc hQ (.inl ⟨wantAt_inv hw h1, hy o h3⟩) hS h
/-- One that is not wanted. -/
theorem E_not (i : Nat) (d : Option Tmp) (op : Op) (ho : opAt ops i = some (d, op)) (hc : checkE md ops late listed i false = true) (hw : wantAt ops i a = some false) (hQ : ∀ c a w, Q (.panic c) (a.put d undef) w → Q (.panic c) a w)
  (hS : St T S late listed w) (h : wpAnyE P md ops Q T S late fuel (listed.setIfInBounds i true) (a.put d undef) w) : wpAnyE P md ops Q T S late (fuel + 1) listed a w := by
 obtain ⟨o, h1, h2, h3⟩ := opAt_inv ho
 subst h2
 exact wpAnyE_take false h1 hc hQ (.inr ⟨wantAt_inv hw h1, rfl⟩) hS h
theorem E_move (i : Nat) (d : Option Tmp) (x : Operand) (v : Value) (ho : opAt ops i = some (d, .move x)) (hc : checkE md ops late listed i false = true) (hw : wantAt ops i a = some true) (hQ : ∀ c a w, Q (.panic c) (a.put d v) w → Q (.panic c) a w)
  (hx : a.eval x = v) (hS : St T S late listed w) (h : wpAnyE P md ops Q T S late fuel (listed.setIfInBounds i true) (a.put d v) w) : wpAnyE P md ops Q T S late (fuel + 1) listed a w :=
 E_any false i d _ v ho hc hw hQ (fun o e w _ => by rw [BigFrame.run_move x e, hx]) hS h
theorem E_pick (i : Nat) (d : Option Tmp) (c x y : Operand) (b : Bool) (v : Value) (ho : opAt ops i = some (d, .pick c x y)) (hc : checkE md ops late listed i false = true) (hw : wantAt ops i a = some true) (hQ : ∀ c a w, Q (.panic c) (a.put d v) w → Q (.panic c) a w)
  (hb : a.eval c = .bool b) (hv : (if b then a.eval x else a.eval y) = v) (hS : St T S late listed w) (h : wpAnyE P md ops Q T S late fuel (listed.setIfInBounds i true) (a.put d v) w) : wpAnyE P md ops Q T S late (fuel + 1) listed a w :=
 E_any false i d _ v ho hc hw hQ (fun o e w _ => by
  unfold execOp
  subst hv
  cases b <;> simp [e, hb, asBool]) hS h
/-- nil check of a pointer. -/
theorem E_nil (i : Nat) (d : Option Tmp) (x : Operand) (ad : Addr) (ho : opAt ops i = some (d, .nilCheck x)) (hc : checkE md ops late listed i false = true) (hw : wantAt ops i a = some true) (hQ : ∀ c a w, Q (.panic c) (a.put d (.pointer (some ad))) w → Q (.panic c) a w)
  (hx : a.eval x = .pointer (some ad)) (hS : St T S late listed w) (h : wpAnyE P md ops Q T S late fuel (listed.setIfInBounds i true) (a.put d (.pointer (some ad))) w) : wpAnyE P md ops Q T S late (fuel + 1) listed a w :=
 E_any false i d _ _ ho hc hw hQ (fun o e w _ => by unfold execOp; simp [e, hx]) hS h
/-- One operation that comes up. -/
def StepE (P : Program) (md : Region.Mode) (ops : Array Oper) (Q : Exit → Act → World → Prop) (T S : World → Prop) (late : List Nat) (fuel : Nat) (listed : Array Bool) (a : Act) (w : World) (i : Nat) : Prop :=
 wpOp P ops Q i (fun a' w' => St T S late (listed.setIfInBounds i true) w' ∧ wpAnyE P md ops Q T S late fuel (listed.setIfInBounds i true) a' w') a w
theorem E_one (i : Nat) (hr : Region.ready md ops listed = [i]) (h : StepE P md ops Q T S late fuel listed a w i) : wpAnyE P md ops Q T S late (fuel + 1) listed a w :=
 ⟨fun h0 => (by rw [hr] at h0; cases h0), fun j hj => (by rw [hr] at hj; simp at hj; subst hj; exact h)⟩
theorem E_two (i j : Nat) (hr : Region.ready md ops listed = [i, j]) (h : StepE P md ops Q T S late fuel listed a w i) (h2 : StepE P md ops Q T S late fuel listed a w j) : wpAnyE P md ops Q T S late (fuel + 1) listed a w :=
 ⟨fun h0 => (by rw [hr] at h0; cases h0), fun k hk => (by
  rw [hr] at hk
  simp at hk
  rcases hk with rfl | rfl
  ·exact h
  ·exact h2)⟩
theorem StepE.of (i : Nat) (d : Option Tmp) (op : Op) (ho : opAt ops i = some (d, op)) (hw : wantAt ops i a = some true)
  (h : ∀ (o : Oper) (K : Act → World → Prop), o.dst = d → o.op = op → (∀ a w, St T S late (listed.setIfInBounds i true) w → wpAnyE P md ops Q T S late fuel (listed.setIfInBounds i true) a w → K a w) → Oper.wp P o a w K Q) : StepE P md ops Q T S late fuel listed a w i := by
 obtain ⟨o, h1, h2, h3⟩ := opAt_inv ho
 exact wpOp_step h1 fun K hK => by
  rw [if_pos (wantAt_inv hw h1)]
  exact h o K h2 h3 fun a w hS hW => hK a w ⟨hS, hW⟩
theorem StepE.run (i : Nat) (d : Option Tmp) (op : Op) (v : Value) (w1 : World) (ho : opAt ops i = some (d, op)) (hw : wantAt ops i a = some true) (hy : ∀ o : Oper, o.op = op → (execOp a.eval o).run P w = .ok (.value v) w1)
  (hS : St T S late (listed.setIfInBounds i true) w1) (h : wpAnyE P md ops Q T S late fuel (listed.setIfInBounds i true) (a.put d v) w1) : StepE P md ops Q T S late fuel listed a w i :=
 StepE.of i d op ho hw fun o K h2 h3 hK => by
  unfold Oper.wp
  rw [hy o h3, Oper.upon_value, h2]
  exact hK _ _ hS h
theorem StepE.skip (i : Nat) (op : Op) (w1 : World) (ho : opAt ops i = some (none, op)) (hw : wantAt ops i a = some true) (hy : ∀ o : Oper, o.op = op → (execOp a.eval o).run P w = .ok .skip w1)
  (hS : St T S late (listed.setIfInBounds i true) w1) (h : wpAnyE P md ops Q T S late fuel (listed.setIfInBounds i true) (a.put none undef) w1) : StepE P md ops Q T S late fuel listed a w i :=
 StepE.of i none op ho hw fun o K h2 h3 hK => by
  unfold Oper.wp
  rw [hy o h3, Oper.upon_skip, h2]
  exact hK _ _ hS h
theorem StepE.assign (i : Nat) (d : Option Tmp) (x : Operand) (v : Value) (ho : opAt ops i = some (d, .assign x)) (hw : wantAt ops i a = some true) (hx : a.eval x = v)
  (hS : St T S late (listed.setIfInBounds i true) w) (h : wpAnyE P md ops Q T S late fuel (listed.setIfInBounds i true) (a.put d v) w) : StepE P md ops Q T S late fuel listed a w i :=
 StepE.run i d _ v w ho hw (fun o e => by rw [BigFrame.run_assign x e, hx]) hS h
end
theorem wpAnyE_done {listed : Array Bool} {a : Act} {w : World} (hr : Region.ready md ops listed = []) (h : Q .normal a w) : ∀ fuel, wpAnyE P md ops Q T S late fuel listed a w
 | 0 => ⟨hr, h⟩
 | _ + 1 => ⟨fun _ => h, by rw [hr]; simp⟩
/-- The beginning. -/
theorem wp_region_E (T S : World → Prop) (late : List Nat) {id : Nat} {a : Act} {w : World} (hm : P.follows .mixedOrders = true)
  (h : wpAnyE P .any ops Q T S late ops.size (Array.replicate ops.size false) a w.drew) : (Code.region id ops true).wp P Q a w :=
 wp_region_any hm (wpAny_of_E _ _ _ _ h)
end
end Go.Proofs.YtepagfkkjlbipaaGreat
