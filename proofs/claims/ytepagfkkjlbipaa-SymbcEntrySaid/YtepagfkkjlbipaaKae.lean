/-
  Contracts: bits.Width, New, has, Len, Get, Deep, Wide. Conditions: those written in each statement.
  norm in plain words: what its functions make of a pool. Conditions: those written in each statement.
  A region that draws its order, reads cells, and writes them at its end: loads may be taken first, under a condition on the world that holds till the writes begin. Conditions: those written in each statement.
  Stores and appends at an operation of a region that draws its order. Conditions: those written in each statement.
-/
import Derived.Test.YtepagfkkjlbipaaKad
import Derived.Test.YtepagfkkjlbipaaKac
import Derived.Test.YtepagfkkjlbipaaKad
import Derived.Laws.Tables
import Derived.Test.YtepagfkkjlbipaaKaa
import Derived.OrdersHeld
import Derived.Deep.RegionHeld
import Derived.BigRegion
section
namespace Go.Proofs.Ytepagfkkjlbipaa
open Go.RowKit
set_option linter.unusedVariables false
set_option linter.unusedSimpArgs false
theorem width_any (x : Int) (w : World) : Calls Try.prog 82 #[.int .i8 x] w fun e w' => e = .returned (.bool (wdB x)) ∧ w = w' := by
  cases h8 : (x == 8)
  · cases h16 : (x == 16)
    · cases h32 : (x == 32)
      · cases h64 : (x == 64)
        all_goals
          go_enter Try.func82, Try.ntmps82
          go_wp2
          go_ret
          exact ⟨by unfold wdB; simp [h8, h16, h32, h64], rfl⟩
      · go_enter Try.func82, Try.ntmps82
        go_wp2
        go_ret
        exact ⟨by unfold wdB; simp [h8, h16, h32], rfl⟩
    · go_enter Try.func82, Try.ntmps82
      go_wp2
      go_ret
      exact ⟨by unfold wdB; simp [h8, h16], rfl⟩
  · go_enter Try.func82, Try.ntmps82
    go_wp2
    go_ret
    exact ⟨by unfold wdB; simp [h8], rfl⟩
section
variable {w : World} {base g : Nat} {F : Nat → Prop} {p : PS}
theorem has_any (k : Int) (h : PoolAt w base F g p) : Calls Try.prog 52 #[.pointer (some ⟨g, 0, none⟩), .int .i64 k] w fun e w' => e = .returned (.bool (hasB p.T k)) ∧ w = w' := by
  obtain ⟨A, c, D, d, h1, h2, _, h4, h5, _⟩ := h.view
  have hf := h.few
  obtain ⟨n, hn⟩ : ∃ n, p.T.length = n := ⟨_, rfl⟩
  have HB := hide (show hasB p.T k = (decide (0 ≤ k) && decide (k < (n : Int))) by unfold hasB; rw [hn])
  rw [hn] at h1 h2 hf
  clear hn h h4 h5
  cases hk : decide (0 ≤ k)
  · have hk2 : decide (k < 0) = true := by simp at hk ⊢; omega
    go_enter Try.func52, Try.ntmps52
    go_wp2
    go_ret
    exact ⟨by rw [HB.out, hk]; rfl, rfl⟩
  · go_enter Try.func52, Try.ntmps52
    go_wp2
    go_ret
    exact ⟨by rw [HB.out, hk]; rfl, rfl⟩
theorem len_any (h : PoolAt w base F g p) : Calls Try.prog 14 #[.pointer (some ⟨g, 0, none⟩)] w fun e w' => e = .returned (.int .i64 (p.T.length : Nat)) ∧ w = w' := by
  obtain ⟨A, c, D, d, h1, h2, _, h4, h5, _⟩ := h.view
  obtain ⟨n, hn⟩ : ∃ n, p.T.length = n := ⟨_, rfl⟩
  rw [hn] at h1 h2 ⊢
  clear hn h h4 h5
  go_enter Try.func14, Try.ntmps14
  go_wp2
  go_ret
  exact ⟨rfl, rfl⟩
/-- A term that is not there. -/
def zeroT : TD := ⟨0, 0, 0, 0, 0, 0, 0⟩
theorem get_none {k : Int} (h : PoolAt w base F g p) (hk : hasB p.T k = false) : Calls Try.prog 45 #[.pointer (some ⟨g, 0, none⟩), .int .i64 k] w fun e w' => e = .returned (.tuple #[termV zeroT, .int .i64 2]) ∧ Below w.heap.size w w' := by
  have H := hide h
  have HH := hide hk
  clear h hk
  go_enter Try.func45, Try.ntmps45
  go_wp2_with fail
  refine (has_any k (H.out.below ((Below.refl _ _).alloc (Nat.le_refl _) _))).mono ?_
  rintro e w' ⟨rfl, rfl⟩
  rw [HH.out]
  go_wp2
  exact bodyPost_ret (v := .tuple #[termV zeroT, .int .i64 2]) (by simp [results, Try.results45, go_sem, termV, zeroT, TD.cells]) rfl ⟨rfl, (Below.refl _ _).alloc (Nat.le_refl _) _⟩
end
theorem sizT : (Try.prog.info? 87).map (·.size) = some 7 := by kernel_rfl
abbrev TD.lit (t : TD) : List Value := [.int .i8 t.kind, .int .i8 t.op, .int .i8 t.w, .int .u64 t.n, .int .i64 t.a, .int .i64 t.b, .int .i64 t.c]
section
variable {w : World} {base g : Nat} {F : Nat → Prop} {p : PS}
theorem get_any {k : Nat} {t : TD} (h : PoolAt w base F g p) (ht : p.T[k]? = some t) : Calls Try.prog 45 #[.pointer (some ⟨g, 0, none⟩), .int .i64 k] w fun e w' => e = .returned (.tuple #[termV t, .int .i64 0]) ∧ Below w.heap.size w w' := by
  have hk : k < p.T.length := (List.getElem?_eq_some_iff.1 ht).1
  have H1 := h.below ((Below.refl _ _).alloc (Nat.le_refl _) (.cells #[.int .i8 0, .int .i8 0, .int .i8 0, .int .u64 0, .int .i64 0, .int .i64 0, .int .i64 0] 87))
  obtain ⟨ad, c, dd, d, t', x', h1, h2, _, _, _, _, ht', _, _, _, _, hc, _⟩ := H1.at_ hk
  obtain rfl : t = t' := by rw [ht] at ht'; exact Option.some.inj ht'
  have H := hide H1
  have hh : hasB p.T k = true := by unfold hasB; simp; exact hk
  have HH := hide hh
  have hf := h.few
  obtain ⟨n, hn⟩ : ∃ n, p.T.length = n := ⟨_, rfl⟩
  rw [hn] at h1 h2 hk hf
  have HC := hide hc
  clear hn h ht' ht hh H1 hc
  have hkd : k < c := by omega
  go_enter Try.func45, Try.ntmps45
  go_wp2_with fail
  refine (has_any k H.out).mono ?_
  rintro e w' ⟨rfl, rfl⟩
  rw [HH.out]
  go_wp2_with (first
    | (refine wpList_load_at rfl 87 (.tmp 21) rfl (ad.add (k * 7)) (by rfl) t.lit _ HC.out Try.underlying87 rfl sizT ?_)
    | fail)
  exact bodyPost_ret (v := .tuple #[termV t, .int .i64 0]) (by simp [results, Try.results45, go_sem, termV, TD.cells]) rfl ⟨rfl, ((Below.refl _ _).alloc (Nat.le_refl _) _)⟩
end
theorem build_pool (a b : Option Nat) (w : World) : (Instr.build 62 #[(2, .map a), (3, .map b)]).run Try.prog w = .ok (.agg #[.slice none 0 0, .slice none 0 0, .map a, .map b]) w := run_build w 62 _ _ (by kernel_rfl)
/-- A pool just made. -/
theorem pool_new (w : World) : PoolAt (((w.alloc (.map #[] 0)).alloc (.map #[] 0)).alloc (.cells #[.slice none 0 0, .slice none 0 0, .map (some w.heap.size), .map (some (w.heap.size + 1))] 62)) w.heap.size (fun b => w.heap.size ≤ b ∧ b < w.heap.size + 3) (w.heap.size + 2) ⟨[], []⟩ := by
  have e1 : (w.alloc (.map #[] 0)).heap.size = w.heap.size + 1 := by simp
  have e2 : ((w.alloc (.map #[] 0)).alloc (.map #[] 0)).heap.size = w.heap.size + 2 := by simp
  have m1 : MapIs Try.prog 87 termV TD.wf (w.alloc (.map #[] 0)) w.heap.size 0 (fun _ => none) := MapIs.new w
  have m2 : MapIs Try.prog 46 (Value.int .u64) U64 ((w.alloc (.map #[] 0)).alloc (.map #[] 0)) (w.heap.size + 1) 0 (fun _ => none) := by
    have := MapIs.new (P := Try.prog) (k := 46) (enc := Value.int .u64) (V := U64) (w.alloc (.map #[] 0))
    rw [e1] at this
    exact this
  have b3 := Blk.new ((w.alloc (.map #[] 0)).alloc (.map #[] 0)) 62 #[.slice none 0 0, .slice none 0 0, .map (some w.heap.size), .map (some (w.heap.size + 1))]
  rw [e2] at b3
  have s1 := Stamped.new w
  refine ⟨⟨.slice none 0 0, .slice none 0 0, w.heap.size, w.heap.size + 1, b3, ⟨rfl, .inl ⟨rfl, rfl⟩⟩, ⟨rfl, .inl ⟨rfl, rfl⟩⟩, (m1.alloc _).alloc _, m2.alloc _, ?_, by omega, ?_, ?_, ?_, ?_, ?_⟩, WfP.nil, by simp, fun b hb => by simp; omega⟩
  · exact s1.block_ (by rw [Below.heap_alloc _ _ _ (by simp; omega), Below.heap_alloc _ _ _ (by simp)])
  · omega
  · omega
  · omega
  · intro b hb; simp [Value.ownBlock] at hb
  · intro b hb; simp [Value.ownBlock] at hb
theorem new_any (w : World) : Calls Try.prog 8 #[] w fun e w' => ∃ g F, e = .returned (.pointer (some ⟨g, 0, none⟩)) ∧ PoolAt w' w.heap.size F g ⟨[], []⟩ ∧ Below w.heap.size w w' := by
  have hbd := fun (a b : Option Nat) (w : World) => build_pool a b w
  have hm1 : ∀ w : World, (Instr.makeMap 58 none).run Try.prog w = .ok (.map (some w.heap.size)) (w.alloc (.map #[] 0)) := fun _ => rfl
  have hm2 : ∀ w : World, (Instr.makeMap 59 none).run Try.prog w = .ok (.map (some w.heap.size)) (w.alloc (.map #[] 0)) := fun _ => rfl
  go_enter Try.func8, Try.ntmps8
  go_wp2
  go_ret
  refine ⟨w.heap.size + 2, _, ?_, pool_new w, (((Below.refl _ _).alloc (Nat.le_refl _) _).alloc (by simp) _).alloc (by simp; omega) _⟩
  rfl
end Go.Proofs.Ytepagfkkjlbipaa
end
section
namespace Go.Proofs.Ytepagfkkjlbipaa
set_option linter.unusedVariables false
set_option linter.unusedSimpArgs false
/-- A pool, a number, an error. -/
abbrev RS := PS × Int × Int
def putR (p : PS) (t : TD) : RS := (putP p t, (putN p t).1, (putN p t).2)
/-- The term at a number; one of noughts, if there is none. -/
def atP (T : List TD) (n : Int) : TD := if hasB T n = true then T.getD n.toNat zeroT else zeroT
def constT (n : Int) : TD := ⟨0, 0, 0, n, 0, 0, 0⟩
def cutV (w v : Int) : Int := if w = 8 then v % 256 else if w = 16 then v % 65536 else if w = 32 then v % 4294967296 else v
def longB (w : Int) : Bool := w == 32 || w == 64
def narrowP (T : List TD) (n w : Int) : Bool :=
  let t := atP T n
  if w = 64 ∨ t.kind = 4 then true
  else if t.kind = 0 then decide (t.n = cutV w t.n)
  else if t.kind = 3 ∨ t.kind = 1 then decide (t.w ≤ w)
  else decide (t.kind = 2 ∧ t.w = 32 ∧ w = 32)
def zextF : Nat → PS → Int → Int → Option RS
  | 0, _, _, _ => none
  | f + 1, p, w, a =>
    let t := atP p.T a
    if w = 64 then some (p, a, 0)
    else if t.kind = 0 then some (putR p (constT (cutV w t.n)))
    else if narrowP p.T a w = true then some (p, a, 0)
    else if t.kind = 3 then zextF f p w t.a
    else some (putR p ⟨3, 0, w, 0, a, 0, 0⟩)
def operandP (p : PS) (w a : Int) : RS :=
  let t := atP p.T a
  if t.kind = 0 then putR p (constT (cutV w t.n))
  else if w = 32 ∧ t.kind = 3 ∧ t.w = 32 then (p, t.a, 0)
  else (p, a, 0)
def bothP (p : PS) (w a b : Int) : PS × Int × Int × Int :=
  let r := operandP p w a
  if r.2.2 = 0 then let s := operandP r.1 w b; (s.1, r.2.1, s.2.1, s.2.2) else (r.1, r.2.1, 0, r.2.2)
end Go.Proofs.Ytepagfkkjlbipaa
end
section
namespace Go.Proofs.Ytepagfkkjlbipaa
set_option linter.unusedVariables false
set_option linter.unusedSimpArgs false
section
variable {P : Program} {ops : Array Oper} {Q : Exit → Act → World → Prop} {md : Region.Mode} {T S : World → Prop} {late : List Nat}
def noneB (late : List Nat) (listed : Array Bool) : Bool := late.all fun j => !listed.getD j true
/-- T holds throughout, S till the first of the late ones. -/
def St (T S : World → Prop) (late : List Nat) (listed : Array Bool) (w : World) : Prop := T w ∧ (noneB late listed = true → S w)
theorem St.both {listed : Array Bool} {w : World} (h1 : T w) (h2 : S w) : St T S late listed w := ⟨h1, fun _ => h2⟩
theorem St.after {listed : Array Bool} {w : World} (h1 : T w) (h2 : noneB late listed = false) : St T S late listed w := ⟨h1, fun h => by rw [h2] at h; cases h⟩
/-- Whatever order is picked from here on. -/
def wpAnyE (P : Program) (md : Region.Mode) (ops : Array Oper) (Q : Exit → Act → World → Prop) (T S : World → Prop) (late : List Nat) : Nat → Array Bool → Act → World → Prop
  | 0, listed, a, w => Region.ready md ops listed = [] ∧ Q .normal a w
  | fuel + 1, listed, a, w =>
    (Region.ready md ops listed = [] → Q .normal a w) ∧
    ∀ i ∈ Region.ready md ops listed, wpOp P ops Q i (fun a' w' => St T S late (listed.setIfInBounds i true) w' ∧ wpAnyE P md ops Q T S late fuel (listed.setIfInBounds i true) a' w') a w
theorem wpAny_of_E : ∀ (fuel : Nat) (listed : Array Bool) (a : Act) (w : World), wpAnyE P md ops Q T S late fuel listed a w → wpAny P md ops Q fuel listed a w
  | 0, _, _, _, h => h
  | fuel + 1, _, _, _, h => ⟨h.1, fun i hi => wpOp_mono (fun a' w' h' => wpAny_of_E fuel _ a' w' h'.2) (h.2 i hi)⟩
/-- The late ones wait: for i, or for one another. -/
def lateB (md : Region.Mode) (ops : Array Oper) (late : List Nat) (i : Nat) : Bool :=
  late.all fun j => match ops[j]? with
    | some oj => oj.after.any (fun e => Region.binds md e && (e.on == i || late.contains e.on))
    | none => true
theorem early {i j : Nat} {listed : Array Bool} (hl : lateB md ops late i = true) (hn : noneB late listed = true) (hi : listed.getD i true = false) (hj : j ∈ Region.ready md ops listed) : late.contains j = false := by
  cases hc : late.contains j
  · rfl
  · exfalso
    unfold lateB at hl
    simp only [List.all_eq_true] at hl
    obtain ⟨_, oj, hoj, hall⟩ := mem_ready.1 hj
    have h1 := hl j (by simpa using hc)
    rw [hoj] at h1
    obtain ⟨e, he, hb⟩ := Array.any_eq_true'.1 h1
    simp only [Bool.and_eq_true, Bool.or_eq_true, beq_iff_eq] at hb
    have h2 := hall e he hb.1
    rcases hb.2 with q | q
    · rw [q] at h2
      rcases Nat.lt_or_ge i listed.size with h' | h'
      · simp [h'] at h2 hi; rw [hi] at h2; cases h2
      · simp [Array.getElem?_eq_none h'] at h2
    · unfold noneB at hn
      rw [List.all_eq_true] at hn
      have := hn e.on (by simpa using q)
      rcases Nat.lt_or_ge e.on listed.size with h' | h'
      · simp [h'] at h2 this; rw [h2] at this; cases this
      · simp [Array.getElem?_eq_none h'] at h2
theorem none_set {j : Nat} {listed : Array Bool} (hn : noneB late listed = true) (hc : late.contains j = false) : noneB late (listed.setIfInBounds j true) = true := by
  unfold noneB at *
  rw [List.all_eq_true] at *
  intro k hk
  have hne : j ≠ k := by
    rintro rfl
    have : late.contains j = true := by simpa using hk
    rw [this] at hc
    cases hc
  rw [getD_set_ne true hne]
  exact hn k hk
theorem none_less {j : Nat} {listed : Array Bool} (hn : noneB late (listed.setIfInBounds j true) = true) : noneB late listed = true := by
  unfold noneB at *
  rw [List.all_eq_true] at *
  intro k hk
  have := hn k hk
  cases hg : listed.getD k true
  · rfl
  · by_cases hjk : j = k
    · subst hjk
      rcases Nat.lt_or_ge j listed.size with h' | h'
      · rw [Array.getD_eq_getD_getElem?, Array.getElem?_setIfInBounds_self_of_lt h'] at this
        cases this
      · rw [Array.setIfInBounds_eq_of_size_le h', hg] at this
        cases this
    · rw [getD_set_ne true hjk, hg] at this
      cases this
/-- What is asked where i is taken first: with b, S may be used. -/
def okE (md : Region.Mode) (ops : Array Oper) (late : List Nat) (listed : Array Bool) (i : Nat) (b : Bool) : Bool := !b || (lateB md ops late i && noneB late listed)
def SS (T S : World → Prop) (b : Bool) (w : World) : Prop := T w ∧ (b = true → S w)
theorem wpAnyE_first {i : Nat} {oi : Oper} {v : Value} (b : Bool) (hil : late.contains i = false) (hi : ops[i]? = some oi) (hsel : ∀ (j : Nat) (o : Oper) cs b, ops[j]? = some o → o.op ≠ .select cs b)
    (hQ : ∀ c a w, Q (.panic c) (a.put oi.dst v) w → Q (.panic c) a w) :
    ∀ (fuel : Nat) (listed : Array Bool) (a : Act) (w : World),
      (∀ j oj, ops[j]? = some oj → j ≠ i → listed.getD j true = false → (∀ e ∈ oj.after, Region.binds md e = true → e.on ≠ i) → oi.apart ops oj = true) →
      (b = true → lateB md ops late i = true ∧ noneB late listed = true) → i ∈ Region.ready md ops listed → YieldsIf P ops (SS T S b) oi v a → St T S late listed w →
      wpAnyE P md ops Q T S late fuel (listed.setIfInBounds i true) (a.put oi.dst v) w → wpAnyE P md ops Q T S late (fuel + 1) listed a w := by
  intro fuel
  induction fuel with
  | zero =>
    intro listed a w _ hb hr hy hS H
    refine ⟨fun h => (by rw [h] at hr; cases hr), fun j hj => ?_⟩
    by_cases hji : j = i
    · subst hji; exact hy.wpOp hi ⟨hS.1, fun q => hS.2 (hb q).2⟩ ⟨⟨hS.1, fun q => hS.2 (none_less q)⟩, H⟩
    · have := ready_mono hj hji
      rw [H.1] at this
      cases this
  | succ fuel ih =>
    intro listed a w hfree hb hr hy hS H
    refine ⟨fun h => (by rw [h] at hr; cases hr), fun j hj => ?_⟩
    by_cases hji : j = i
    · subst hji; exact hy.wpOp hi ⟨hS.1, fun q => hS.2 (hb q).2⟩ ⟨⟨hS.1, fun q => hS.2 (none_less q)⟩, H⟩
    · have h1 := H.2 j (ready_mono hj hji)
      obtain ⟨hjun, oj, hoj, hall⟩ := mem_ready.1 hj
      have hiu := (mem_ready.1 hr).1
      have hnot : ∀ e ∈ oj.after, Region.binds md e = true → e.on ≠ i := fun e he hb heq => by
        have h1 := hall e he hb
        have h0 := hiu
        rw [heq] at h1
        rcases Nat.lt_or_ge i listed.size with h' | h'
        · simp [h'] at h0 h1; rw [h0] at h1; cases h1
        · simp [Array.getElem?_eq_none h'] at h1
      have h2 := wpOp_putIf hoj (hfree j oj hoj hji hjun hnot) (fun cs b => hsel i oi cs b hi) (fun cs b => hsel j oj cs b hoj) hQ hy h1
      have hfree' : ∀ k ok, ops[k]? = some ok → k ≠ i → (listed.setIfInBounds j true).getD k true = false →
          (∀ e ∈ ok.after, Region.binds md e = true → e.on ≠ i) → oi.apart ops ok = true := fun k ok hk hki hun hno => by
        refine hfree k ok hk hki ?_ hno
        by_cases hjk : j = k
        · subst hjk; exact hjun
        · rw [getD_set_ne true hjk] at hun; exact hun
      refine wpOp_mono (fun a' w' h3 => ?_) h2
      have h4 : St T S late (listed.setIfInBounds j true) w' := ⟨h3.2.1.1, fun q => h3.2.1.2 (by
        rw [Array.setIfInBounds_comm _ _ (Ne.symm hji)]
        exact none_set q hil)⟩
      refine ⟨h4, ih (listed.setIfInBounds j true) a' w' hfree' (fun q => ⟨(hb q).1, none_set (hb q).2 (early (hb q).1 (hb q).2 hiu hj)⟩) (ready_mono hr (Ne.symm hji)) h3.1 h4 ?_⟩
      rw [Array.setIfInBounds_comm _ _ hji]
      exact h3.2.2
def opAt (ops : Array Oper) (i : Nat) : Option (Option Tmp × Op) := (ops[i]?).map fun o => (o.dst, o.op)
def wantAt (ops : Array Oper) (i : Nat) (a : Act) : Option Bool := (ops[i]?).map fun o => Region.wanted o (yielded ops a.tmps)
/-- All that is asked of a region where number i is taken first. -/
def checkE (md : Region.Mode) (ops : Array Oper) (late : List Nat) (listed : Array Bool) (i : Nat) (b : Bool) : Bool :=
  Region.noSelect ops && (Region.free md ops listed i && ((Region.ready md ops listed).contains i && (!late.contains i && (!b || (lateB md ops late i && noneB late listed)))))
theorem opAt_inv {i : Nat} {d : Option Tmp} {op : Op} (h : opAt ops i = some (d, op)) : ∃ o, ops[i]? = some o ∧ o.dst = d ∧ o.op = op := by
  unfold opAt at h
  cases e : ops[i]? with
  | none => rw [e] at h; cases h
  | some o =>
    rw [e] at h
    injection h with h
    injection h with h1 h2
    exact ⟨o, rfl, h1, h2⟩
theorem wantAt_inv {i : Nat} {a : Act} {b : Bool} {o : Oper} (h : wantAt ops i a = some b) (ho : ops[i]? = some o) : Region.wanted o (yielded ops a.tmps) = b := by
  unfold wantAt at h
  rw [ho] at h
  injection h
section
variable {fuel : Nat} {listed : Array Bool} {a : Act} {w : World}
theorem wpAnyE_take (b : Bool) {i : Nat} {oi : Oper} {v : Value} (hi : ops[i]? = some oi) (hc : checkE md ops late listed i b = true) (hQ : ∀ c a w, Q (.panic c) (a.put oi.dst v) w → Q (.panic c) a w) (hy : YieldsIf P ops (SS T S b) oi v a) (hS : St T S late listed w)
    (h : wpAnyE P md ops Q T S late fuel (listed.setIfInBounds i true) (a.put oi.dst v) w) : wpAnyE P md ops Q T S late (fuel + 1) listed a w := by
  unfold checkE at hc
  simp only [Bool.and_eq_true, Bool.or_eq_true, Bool.not_eq_true'] at hc
  obtain ⟨h1, h2, h3, h4, h5⟩ := hc
  exact wpAnyE_first b h4 hi (Region.noSelect_spec h1) hQ fuel listed a w (Region.free_spec hi h2) (fun q => by
    rcases h5 with h5 | h5
    · rw [q] at h5; cases h5
    · exact h5) (by simpa using h3) hy hS h
/-- Number i is taken first. -/
theorem E_any (b : Bool) (i : Nat) (d : Option Tmp) (op : Op) (v : Value) (ho : opAt ops i = some (d, op)) (hc : checkE md ops late listed i b = true) (hw : wantAt ops i a = some true) (hQ : ∀ c a w, Q (.panic c) (a.put d v) w → Q (.panic c) a w)
    (hy : ∀ o : Oper, o.op = op → ∀ w, SS T S b w → (execOp a.eval o).run P w = .ok (.value v) w) (hS : St T S late listed w) (h : wpAnyE P md ops Q T S late fuel (listed.setIfInBounds i true) (a.put d v) w) : wpAnyE P md ops Q T S late (fuel + 1) listed a w := by
  obtain ⟨o, h1, h2, h3⟩ := opAt_inv ho
  subst h2
  exact wpAnyE_take b h1 hc hQ (.inl ⟨wantAt_inv hw h1, hy o h3⟩) hS h
/-- One that is not wanted. -/
theorem E_not (i : Nat) (d : Option Tmp) (op : Op) (ho : opAt ops i = some (d, op)) (hc : checkE md ops late listed i false = true) (hw : wantAt ops i a = some false) (hQ : ∀ c a w, Q (.panic c) (a.put d undef) w → Q (.panic c) a w)
    (hS : St T S late listed w) (h : wpAnyE P md ops Q T S late fuel (listed.setIfInBounds i true) (a.put d undef) w) : wpAnyE P md ops Q T S late (fuel + 1) listed a w := by
  obtain ⟨o, h1, h2, h3⟩ := opAt_inv ho
  subst h2
  exact wpAnyE_take false h1 hc hQ (.inr ⟨wantAt_inv hw h1, rfl⟩) hS h
theorem E_move (i : Nat) (d : Option Tmp) (x : Operand) (v : Value) (ho : opAt ops i = some (d, .move x)) (hc : checkE md ops late listed i false = true) (hw : wantAt ops i a = some true) (hQ : ∀ c a w, Q (.panic c) (a.put d v) w → Q (.panic c) a w)
    (hx : a.eval x = v) (hS : St T S late listed w) (h : wpAnyE P md ops Q T S late fuel (listed.setIfInBounds i true) (a.put d v) w) : wpAnyE P md ops Q T S late (fuel + 1) listed a w :=
  E_any false i d _ v ho hc hw hQ (fun o e w _ => by rw [BigFrame.run_move x e, hx]) hS h
theorem E_pick (i : Nat) (d : Option Tmp) (c x y : Operand) (b : Bool) (v : Value) (ho : opAt ops i = some (d, .pick c x y)) (hc : checkE md ops late listed i false = true) (hw : wantAt ops i a = some true) (hQ : ∀ c a w, Q (.panic c) (a.put d v) w → Q (.panic c) a w)
    (hb : a.eval c = .bool b) (hv : (if b then a.eval x else a.eval y) = v) (hS : St T S late listed w) (h : wpAnyE P md ops Q T S late fuel (listed.setIfInBounds i true) (a.put d v) w) : wpAnyE P md ops Q T S late (fuel + 1) listed a w :=
  E_any false i d _ v ho hc hw hQ (fun o e w _ => by
    unfold execOp
    subst hv
    cases b <;> simp [e, hb, asBool]) hS h
/-- nil check of a pointer. -/
theorem E_nil (i : Nat) (d : Option Tmp) (x : Operand) (ad : Addr) (ho : opAt ops i = some (d, .nilCheck x)) (hc : checkE md ops late listed i false = true) (hw : wantAt ops i a = some true) (hQ : ∀ c a w, Q (.panic c) (a.put d (.pointer (some ad))) w → Q (.panic c) a w)
    (hx : a.eval x = .pointer (some ad)) (hS : St T S late listed w) (h : wpAnyE P md ops Q T S late fuel (listed.setIfInBounds i true) (a.put d (.pointer (some ad))) w) : wpAnyE P md ops Q T S late (fuel + 1) listed a w :=
  E_any false i d _ _ ho hc hw hQ (fun o e w _ => by unfold execOp; simp [e, hx]) hS h
/-- One operation that comes up. -/
def StepE (P : Program) (md : Region.Mode) (ops : Array Oper) (Q : Exit → Act → World → Prop) (T S : World → Prop) (late : List Nat) (fuel : Nat) (listed : Array Bool) (a : Act) (w : World) (i : Nat) : Prop :=
  wpOp P ops Q i (fun a' w' => St T S late (listed.setIfInBounds i true) w' ∧ wpAnyE P md ops Q T S late fuel (listed.setIfInBounds i true) a' w') a w
theorem E_one (i : Nat) (hr : Region.ready md ops listed = [i]) (h : StepE P md ops Q T S late fuel listed a w i) : wpAnyE P md ops Q T S late (fuel + 1) listed a w :=
  ⟨fun h0 => (by rw [hr] at h0; cases h0), fun j hj => (by rw [hr] at hj; simp at hj; subst hj; exact h)⟩
theorem E_two (i j : Nat) (hr : Region.ready md ops listed = [i, j]) (h : StepE P md ops Q T S late fuel listed a w i) (h2 : StepE P md ops Q T S late fuel listed a w j) : wpAnyE P md ops Q T S late (fuel + 1) listed a w :=
  ⟨fun h0 => (by rw [hr] at h0; cases h0), fun k hk => (by
    rw [hr] at hk
    simp at hk
    rcases hk with rfl | rfl
    · exact h
    · exact h2)⟩
theorem StepE.of (i : Nat) (d : Option Tmp) (op : Op) (ho : opAt ops i = some (d, op)) (hw : wantAt ops i a = some true)
    (h : ∀ (o : Oper) (K : Act → World → Prop), o.dst = d → o.op = op → (∀ a w, St T S late (listed.setIfInBounds i true) w → wpAnyE P md ops Q T S late fuel (listed.setIfInBounds i true) a w → K a w) → Oper.wp P o a w K Q) : StepE P md ops Q T S late fuel listed a w i := by
  obtain ⟨o, h1, h2, h3⟩ := opAt_inv ho
  exact wpOp_step h1 fun K hK => by
    rw [if_pos (wantAt_inv hw h1)]
    exact h o K h2 h3 fun a w hS hW => hK a w ⟨hS, hW⟩
theorem StepE.run (i : Nat) (d : Option Tmp) (op : Op) (v : Value) (w1 : World) (ho : opAt ops i = some (d, op)) (hw : wantAt ops i a = some true) (hy : ∀ o : Oper, o.op = op → (execOp a.eval o).run P w = .ok (.value v) w1)
    (hS : St T S late (listed.setIfInBounds i true) w1) (h : wpAnyE P md ops Q T S late fuel (listed.setIfInBounds i true) (a.put d v) w1) : StepE P md ops Q T S late fuel listed a w i :=
  StepE.of i d op ho hw fun o K h2 h3 hK => by
    unfold Oper.wp
    rw [hy o h3, Oper.upon_value, h2]
    exact hK _ _ hS h
theorem StepE.skip (i : Nat) (op : Op) (w1 : World) (ho : opAt ops i = some (none, op)) (hw : wantAt ops i a = some true) (hy : ∀ o : Oper, o.op = op → (execOp a.eval o).run P w = .ok .skip w1)
    (hS : St T S late (listed.setIfInBounds i true) w1) (h : wpAnyE P md ops Q T S late fuel (listed.setIfInBounds i true) (a.put none undef) w1) : StepE P md ops Q T S late fuel listed a w i :=
  StepE.of i none op ho hw fun o K h2 h3 hK => by
    unfold Oper.wp
    rw [hy o h3, Oper.upon_skip, h2]
    exact hK _ _ hS h
theorem StepE.assign (i : Nat) (d : Option Tmp) (x : Operand) (v : Value) (ho : opAt ops i = some (d, .assign x)) (hw : wantAt ops i a = some true) (hx : a.eval x = v)
    (hS : St T S late (listed.setIfInBounds i true) w) (h : wpAnyE P md ops Q T S late fuel (listed.setIfInBounds i true) (a.put d v) w) : StepE P md ops Q T S late fuel listed a w i :=
  StepE.run i d _ v w ho hw (fun o e => by rw [BigFrame.run_assign x e, hx]) hS h
end
theorem wpAnyE_done {listed : Array Bool} {a : Act} {w : World} (hr : Region.ready md ops listed = []) (h : Q .normal a w) : ∀ fuel, wpAnyE P md ops Q T S late fuel listed a w
  | 0 => ⟨hr, h⟩
  | _ + 1 => ⟨fun _ => h, by rw [hr]; simp⟩
/-- The beginning. -/
theorem wp_region_E (T S : World → Prop) (late : List Nat) {id : Nat} {a : Act} {w : World} (hm : P.follows .mixedOrders = true)
    (h : wpAnyE P .any ops Q T S late ops.size (Array.replicate ops.size false) a w.drew) : (Code.region id ops true).wp P Q a w :=
  wp_region_any hm (wpAny_of_E _ _ _ _ h)
end
end Go.Proofs.Ytepagfkkjlbipaa
end
section
namespace Go.Proofs.Ytepagfkkjlbipaa
open Go.RowKit
set_option linter.unusedVariables false
set_option linter.unusedSimpArgs false
section
variable {P : Program} {w : World}
theorem run_loadVar_one (ty : TypeId) (ad : Addr) (d : TypeDesc) (v : Value) (hu : P.underlying ty = some d) (hd : aggD d = false) (hc : w.cell? ad = some v) : (loadVar ty ad).run P w = .ok v w := by
  have hagg : (isAgg ty).run P w = .ok false w := by
    unfold isAgg
    rw [Sem.run_bind, run_underlying hu w]
    cases d <;> simp_all [aggD]
  simp [loadVar, Sem.run_bind, hagg, hc, go_sem]
theorem run_storeVar_one (ty : TypeId) (g j : Nat) (te : TypeId) (cs : Array Value) (v : Value) (hb : Blk w g te cs) (hj : j < cs.size) (hi : (P.info? ty).map (·.size) = some 1) (hv : v.cells = #[v]) (h1 : v.oneCell' = true) : (storeVar ty ⟨g, j, none⟩ v).run P w = .ok () (w.setCell ⟨g, j, none⟩ v) := by
  have hc : w.cell? ⟨g, j, none⟩ = some cs[j] := by rw [hb.cell]; simp [hj]
  have hf := hb.frozen j
  cases hq : P.info? ty with
  | none => simp [hq] at hi
  | some i =>
    have hs : i.size = 1 := by simpa [hq] using hi
    have h2 : (store ⟨g, j, none⟩ v).run P w = .ok () (w.setCell ⟨g, j, none⟩ v) := (run_store P w _ _ _ h1).trans (by simp [stored, hc, hf])
    have ha : (⟨g, j, none⟩ : Addr).add 0 = ⟨g, j, none⟩ := rfl
    simp [storeVar, Sem.run_bind, sizeOf, typeInfo, hq, hs, hv, storeCells, ha, h2]
end
section
variable {P : Program} {ops : Array Oper} {Q : Exit → Act → World → Prop} {md : Region.Mode} {T S : World → Prop} {late : List Nat} {fuel : Nat} {listed : Array Bool} {a : Act} {w : World}
/-- A load of an aggregate, taken first. -/
theorem E_load (b : Bool) (i : Nat) (d : Option Tmp) (ty : TypeId) (x : Operand) (ad : Addr) (cs : List Value) (de : TypeDesc) (ho : opAt ops i = some (d, .load ty x)) (hc : checkE md ops late listed i b = true) (hw : wantAt ops i a = some true)
    (hQ : ∀ c u w, Q (.panic c) (Act.put u d (.agg cs.toArray)) w → Q (.panic c) u w) (hx : a.eval x = .pointer (some ad)) (hl : ∀ w, SS T S b w → ∀ j u, cs[j]? = some u → w.cell? (ad.add j) = some u)
    (hu : P.underlying ty = some de) (hd : aggD de = true) (hi : (P.info? ty).map (·.size) = some cs.length) (hS : St T S late listed w) (h : wpAnyE P md ops Q T S late fuel (listed.setIfInBounds i true) (a.put d (.agg cs.toArray)) w) : wpAnyE P md ops Q T S late (fuel + 1) listed a w :=
  E_any b i d _ _ ho hc hw (fun c u w => hQ c u w) (fun o e w hS => by
    unfold execOp
    simp only [e, hx, Instr.loadAt, Instr.sureAddr, Sem.run_bind, Sem.run_pure, Result.andThen_ok, run_loadVar_at w ad ty cs de (hl w hS) hu hd hi]) hS h
/-- A load of one cell, taken first. -/
theorem E_load1 (b : Bool) (i : Nat) (d : Option Tmp) (ty : TypeId) (x : Operand) (ad : Addr) (v : Value) (ho : opAt ops i = some (d, .load ty x)) (hc : checkE md ops late listed i b = true) (hw : wantAt ops i a = some true)
    (hQ : ∀ c a w, Q (.panic c) (a.put d v) w → Q (.panic c) a w) (hx : a.eval x = .pointer (some ad)) (hl : ∀ w, SS T S b w → (loadVar ty ad).run P w = .ok v w)
    (hS : St T S late listed w) (h : wpAnyE P md ops Q T S late fuel (listed.setIfInBounds i true) (a.put d v) w) : wpAnyE P md ops Q T S late (fuel + 1) listed a w :=
  E_any b i d _ _ ho hc hw hQ (fun o e w hS => by
    unfold execOp
    simp only [e, hx, Instr.loadAt, Instr.sureAddr, Sem.run_bind, Sem.run_pure, Result.andThen_ok, hl w hS]) hS h
theorem E_bin (i : Nat) (d : Option Tmp) (b : BinOp) (t yt : TypeId) (x y : Operand) (u z v : Value) (ho : opAt ops i = some (d, .binOp b t x y yt)) (hc : checkE md ops late listed i false = true) (hw : wantAt ops i a = some true)
    (hQ : ∀ c a w, Q (.panic c) (a.put d v) w → Q (.panic c) a w) (hx : a.eval x = u) (hy : a.eval y = z) (hr : ∀ w, (do eqGuard b t x y u z; binOp b t u z : Sem Value).run P w = .ok v w)
    (hS : St T S late listed w) (h : wpAnyE P md ops Q T S late fuel (listed.setIfInBounds i true) (a.put d v) w) : wpAnyE P md ops Q T S late (fuel + 1) listed a w :=
  E_any false i d _ _ ho hc hw hQ (fun o e w hS => by
    unfold execOp
    have := hr w
    simp only [e, hx, hy, Sem.run_bind, Sem.run_pure] at this ⊢
    rw [this]
    rfl) hS h
/-- All of a block is stored. -/
theorem StepE.store_whole (i : Nat) (ty : TypeId) (x y : Operand) (g : Nat) (Z X : List Value) (ho : opAt ops i = some (none, .store ty x y)) (hw : wantAt ops i a = some true) (hB : Blk w g ty Z.toArray)
    (hx : a.eval x = .pointer (some ⟨g, 0, none⟩)) (hy : a.eval y = .agg X.toArray) (hi : (P.info? ty).map (·.size) = some X.length) (hl : Z.length = X.length) (h1 : ∀ u ∈ X, u.oneCell' = true)
    (hK : ∀ w', Blk w' g ty X.toArray → w.grownBy w' (some g) → St T S late (listed.setIfInBounds i true) w' ∧ wpAnyE P md ops Q T S late fuel (listed.setIfInBounds i true) (a.put none undef) w') : StepE P md ops Q T S late fuel listed a w i :=
  StepE.of i none _ ho hw fun o K h2 h3 hKK => by
    unfold Oper.wp execOp
    simp only [h3, hx, hy, Instr.storeAt, Instr.sureAddr, Sem.run_bind, Sem.run_pure, Result.andThen_ok, run_storeVar_at w g 0 ty ty Z X (.agg X.toArray) hB rfl hi (by omega) h1]
    rw [Oper.upon_skip, h2]
    have hov : overC Z 0 X = X := by
      unfold overC
      rw [List.take_zero, List.nil_append, Nat.zero_add, List.drop_of_length_le (by omega), List.append_nil]
    have hxx := setRow_heap w g _ (overC Z 0 X).toArray ty (0, 0) hB
    rw [hov] at hxx ⊢
    have := hK _ hxx (grown_setRow w g _)
    exact hKK _ _ this.1 this.2
/-- One cell of a block is stored. -/
theorem StepE.store_cell (i : Nat) (ty te : TypeId) (x y : Operand) (g j : Nat) (cs : Array Value) (v : Value) (ho : opAt ops i = some (none, .store ty x y)) (hw : wantAt ops i a = some true) (hB : Blk w g te cs)
    (hx : a.eval x = .pointer (some ⟨g, j, none⟩)) (hy : a.eval y = v) (hr : (storeVar ty ⟨g, j, none⟩ v).run P w = .ok () (w.setCell ⟨g, j, none⟩ v))
    (hK : ∀ w', Blk w' g te (cs.setIfInBounds j v) → w.grownBy w' (some g) → St T S late (listed.setIfInBounds i true) w' ∧ wpAnyE P md ops Q T S late fuel (listed.setIfInBounds i true) (a.put none undef) w') : StepE P md ops Q T S late fuel listed a w i :=
  StepE.of i none _ ho hw fun o K h2 h3 hKK => by
    unfold Oper.wp execOp
    simp only [h3, hx, hy, Instr.storeAt, Instr.sureAddr, Sem.run_bind, Sem.run_pure, Result.andThen_ok, hr]
    rw [Oper.upon_skip, h2]
    have := hK _ (hB.set_ j v) ⟨rfl, rfl, rfl, by simp, fun k _ hk => heap_setCell_other w ⟨g, j, none⟩ k v (fun e => hk (by simp [e]))⟩
    exact hKK _ _ this.1 this.2
/-- A value of one element laid into a slice of its own. -/
theorem StepE.slice_one (i : Nat) (d : Option Tmp) (t e : TypeId) (x : Operand) (i0 : TypeInfo) (z v : Value) (ho : opAt ops i = some (d, .buildSlice t 1 #[(0, x)])) (hw : wantAt ops i a = some true) (ht : P.underlying t = some (.slice e)) (hi : P.info? e = some i0) (hz : i0.zero = some z)
    (hs : i0.size ≤ 1024) (h0 : 0 < i0.size) (hx : a.eval x = v) (hv : v.cells.size = i0.size)
    (hK : ∀ w' g, w.heap.size ≤ g → Blk w' g e v.cells → Below w.heap.size w w' → St T S late (listed.setIfInBounds i true) w' ∧ wpAnyE P md ops Q T S late fuel (listed.setIfInBounds i true) (a.put d (.slice (some ⟨g, 0, none⟩) 1 1)) w') : StepE P md ops Q T S late fuel listed a w i :=
  StepE.of i d _ ho hw fun o K h2 h3 hKK => by
    unfold Oper.wp execOp
    have hrun := run_buildSlice_one (P := P) w t e i0 z v ht hi hz hs h0 hv
    simp only [h3, Sem.run_bind, List.map_toArray, List.map_cons, List.map_nil, hx, hrun, Result.andThen_ok, Sem.run_pure]
    have := hK _ _ (Nat.le_refl _) (Blk.new w e v.cells) ((Below.refl _ _).alloc (Nat.le_refl _) _)
    rw [Oper.upon_value, h2]
    exact hKK _ _ this.1 this.2
/-- A field's address, taken first. -/
theorem E_field (i : Nat) (d : Option Tmp) (st : TypeId) (x : Operand) (f : Nat) (ad ad' : Addr) (ho : opAt ops i = some (d, .fieldAddr st x f)) (hc : checkE md ops late listed i false = true) (hw : wantAt ops i a = some true)
    (hQ : ∀ c a w, Q (.panic c) (a.put d (.pointer (some ad'))) w → Q (.panic c) a w) (hx : a.eval x = .pointer (some ad)) (hr : ∀ w, (Instr.fieldAt st (.pointer (some ad)) f).run P w = .ok (.pointer (some ad')) w)
    (hS : St T S late listed w) (h : wpAnyE P md ops Q T S late fuel (listed.setIfInBounds i true) (a.put d (.pointer (some ad'))) w) : wpAnyE P md ops Q T S late (fuel + 1) listed a w :=
  E_any false i d _ _ ho hc hw hQ (fun o e w _ => by
    unfold execOp
    simp only [e, hx, Sem.run_bind, hr, Result.andThen_ok, Sem.run_pure]) hS h
/-- The one field of a tuple. -/
theorem StepE.extract (i : Nat) (d : Option Tmp) (x : Operand) (k : Nat) (vs : Array Value) (v : Value) (ho : opAt ops i = some (d, .extract x k)) (hw : wantAt ops i a = some true) (hx : a.eval x = .tuple vs) (hv : vs[k]? = some v)
    (hS : St T S late (listed.setIfInBounds i true) w) (h : wpAnyE P md ops Q T S late fuel (listed.setIfInBounds i true) (a.put d v) w) : StepE P md ops Q T S late fuel listed a w i :=
  StepE.run i d _ v w ho hw (fun o e => by
    unfold execOp
    simp [e, hx, Instr.extract, hv]) hS h
/-- A pure step in its turn. -/
theorem StepE.nil (i : Nat) (d : Option Tmp) (x : Operand) (ad : Addr) (ho : opAt ops i = some (d, .nilCheck x)) (hw : wantAt ops i a = some true) (hx : a.eval x = .pointer (some ad))
    (hS : St T S late (listed.setIfInBounds i true) w) (h : wpAnyE P md ops Q T S late fuel (listed.setIfInBounds i true) (a.put d (.pointer (some ad))) w) : StepE P md ops Q T S late fuel listed a w i :=
  StepE.run i d _ _ w ho hw (fun o e => by unfold execOp; simp [e, hx]) hS h
theorem StepE.field (i : Nat) (d : Option Tmp) (st : TypeId) (x : Operand) (f : Nat) (ad ad' : Addr) (ho : opAt ops i = some (d, .fieldAddr st x f)) (hw : wantAt ops i a = some true) (hx : a.eval x = .pointer (some ad)) (hr : ∀ w, (Instr.fieldAt st (.pointer (some ad)) f).run P w = .ok (.pointer (some ad')) w)
    (hS : St T S late (listed.setIfInBounds i true) w) (h : wpAnyE P md ops Q T S late fuel (listed.setIfInBounds i true) (a.put d (.pointer (some ad'))) w) : StepE P md ops Q T S late fuel listed a w i :=
  StepE.run i d _ _ w ho hw (fun o e => by
    unfold execOp
    simp only [e, hx, Sem.run_bind, hr, Result.andThen_ok, Sem.run_pure]) hS h
/-- append. -/
theorem StepE.append (i : Nat) (d : Option Tmp) (t e : TypeId) (s x : Operand) (base : Nat) (i0 : TypeInfo) (z : Value) (size bytes : Nat) (ho : opAt ops i = some (d, .call { callee := .builtin .append, args := #[s, x], argTypes := #[t, t] })) (hw : wantAt ops i a = some true)
    (ht : P.underlying t = some (.slice e)) (hi : P.info? e = some i0) (hz : i0.zero = some z) (hsize : i0.size = size) (hby : i0.bytes = bytes) (hzs : z.cells.size = size) (hsz : 0 < size)
    (v : Value) (n : Nat) (xs : List Value) (hs : a.eval s = v) (hown : w.ownsRow base e size v n xs) (B : Nat) (A : Option Addr) (m c : Nat) (news : List Value) (hx : a.eval x = .slice A m c) (hr : Reads w B size A m news) (h1 : ∀ u ∈ news, u.oneCell' = true)
    (h63 : n + m ≤ maxLen) (hbytes : (n + m) * bytes ≤ 140737488355328) (hbase : base ≤ w.heap.size)
    (hK : ∀ v' w', w'.ownsRow base e size v' (n + m) (xs ++ news) → w.grownBy w' v.ownBlock → (v'.ownBlock = v.ownBlock ∨ v'.ownBlock = some w.heap.size) → St T S late (listed.setIfInBounds i true) w' ∧ wpAnyE P md ops Q T S late fuel (listed.setIfInBounds i true) (a.put d v') w') : StepE P md ops Q T S late fuel listed a w i :=
  StepE.of i d _ ho hw fun o K h2 h3 hKK => wp_append_any w s x t h3 base e i0 z size bytes ht hi hz hsize hby hzs hsz v n xs hs hown B A m c news hx hr h1 h63 hbytes hbase fun v' w' q1 q2 q3 => by
    have := hK v' w' q1 q2 q3
    rw [h2]
    exact hKK _ _ this.1 this.2
end
end Go.Proofs.Ytepagfkkjlbipaa
end
