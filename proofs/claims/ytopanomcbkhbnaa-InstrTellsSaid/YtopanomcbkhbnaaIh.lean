/-
  instr.Same: are two programs the same. Conditions: those written in each statement.
-/
import Derived.Test.YtopanomcbkhbnaaIb
import Derived.Test.YtopanomcbkhbnaaMie
import Derived.Test.YtopanomcbkhbnaaQuiet
import Derived.Deep.QuietTactic
import Derived.BigQuiet
namespace Go.Proofs.Ytopanomcbkhbnaa
open Go.RowKit
set_option linter.unusedVariables false
set_option linter.unusedSimpArgs false
def sameR : List ID → List ID → Bool
  | [], [] => true
  | x :: r, y :: t => eqL x.cells y.cells && sameR r t
  | _, _ => false
theorem sameR_iff : ∀ (a b : List ID), sameR a b = true ↔ a.length = b.length ∧ ∀ (k : Nat) (x y : ID), a[k]? = some x → b[k]? = some y → eqL x.cells y.cells = true
  | [], [] => by simp [sameR]
  | [], y :: t => by simp [sameR]
  | x :: r, [] => by simp [sameR]
  | x :: r, y :: t => by
    simp only [sameR, Bool.and_eq_true, sameR_iff r t, List.length_cons]
    constructor
    · rintro ⟨h1, h2, h3⟩
      refine ⟨by omega, fun k p q hp hq => ?_⟩
      cases k with
      | zero => simp at hp hq; subst hp hq; exact h1
      | succ k => exact h3 k p q (by simpa using hp) (by simpa using hq)
    · rintro ⟨h1, h2⟩
      exact ⟨h2 0 x y rfl rfl, by omega, fun k p q hp hq => h2 (k + 1) p q (by simpa using hp) (by simpa using hq)⟩
theorem eq_id_iff {x y : ID} (hx : x.wf) (hy : y.wf) : eqL x.cells y.cells = true ↔ x = y := by
  rw [eqL_iff instrK _ _ (ID.all hx) (ID.all hy)]
  exact ⟨ID.cells_inj, fun h => by rw [h]⟩
theorem sameR_eq {a b : List ID} (ha : ∀ x ∈ a, x.wf) (hb : ∀ x ∈ b, x.wf) : sameR a b = true ↔ a = b := by
  rw [sameR_iff]
  constructor
  · rintro ⟨hl, h⟩
    refine List.ext_getElem hl fun i h1 h2 => ?_
    have := h i _ _ (List.getElem?_eq_getElem h1) (List.getElem?_eq_getElem h2)
    exact (eq_id_iff (ha _ (List.getElem_mem h1)) (hb _ (List.getElem_mem h2))).1 this
  · rintro rfl
    refine ⟨rfl, fun k x y hx hy => ?_⟩
    rw [hx] at hy
    obtain rfl := Option.some.inj hy
    exact (eq_id_iff (ha _ (List.mem_of_getElem? hx)) (ha _ (List.mem_of_getElem? hx))).2 rfl
def sameB (c d : Int) (a b : List ID) : Bool := c == d && sameR a b
theorem sameB_eq {c d : Int} {a b : List ID} (ha : ∀ x ∈ a, x.wf) (hb : ∀ x ∈ b, x.wf) : sameB c d a b = true ↔ c = d ∧ a = b := by
  unfold sameB
  rw [Bool.and_eq_true, beq_iff_eq, sameR_eq ha hb]
theorem drewN_ex {w wr : World} (h : ∃ d, wr = w.drewN d) (k : Nat) : ∃ d, wr.drewN k = w.drewN d := by
  obtain ⟨d, rfl⟩ := h
  exact ⟨d + k, by rw [World.drewN_drewN]⟩
theorem InsAt.drewN {w : World} {B n : Nat} {A : Option Addr} {l : List ID} (h : InsAt w B A n l) (k : Nat) : InsAt (w.drewN k) B A n l := h
def EqRel (l m : List ID) (W : World) (B : Nat) (A A2 : Option Addr) (n n2 : Nat) (i : Value) (wr : World) : Prop :=
  ∃ k : Nat, k ≤ n ∧ k ≤ n2 ∧ i = .int .i64 k ∧ (∀ j p q, j < k → l[j]? = some p → m[j]? = some q → eqL p.cells q.cells = true) ∧ InsAt wr B A n l ∧ InsAt wr B A2 n2 m ∧ ∃ d, wr = W.drewN d
set_option maxRecDepth 100000 in
set_option maxHeartbeats 2000000 in
theorem equal_any (A A2 : Option Addr) (n c n2 c2 : Nat) (l m : List ID) (w : World) (B : Nat) (hh : InsAt w B A n l) (hh2 : InsAt w B A2 n2 m) (hc : n ≤ c) (hc2 : n2 ≤ c2) (hm : n < 9223372036854775808) (hm2 : n2 < 9223372036854775808) :
    Calls Try.prog 33 #[.slice A n c, .slice A2 n2 c2] w fun e w' => e = .returned (.bool (sameR l m)) ∧ ∃ d, w' = w.drewN d := by
  have HH := hide hh
  have HH2 := hide hh2
  have hl := hide hh.1
  have hl2 := hide hh2.1
  clear hh hh2
  obtain ⟨mn, hmn⟩ : ∃ v : Nat, min n n2 = v := ⟨_, rfl⟩
  have hmn1 : mn ≤ n := by omega
  have hmn2 : mn ≤ n2 := by omega
  have HMN := hide (show (mn = n ∧ n ≤ n2) ∨ (mn = n2 ∧ n2 ≤ n) by omega)
  clear hmn
  have hcase : n2 < n ∨ n ≤ n2 := by omega
  rcases hcase with hlt2 | hge2
  all_goals
    go_enter Try.func33, Try.ntmps33
    go_wp2_with fail
    go_loopw [11] (fun i wr => EqRel l m w B A A2 n n2 i wr) (fun i _ => mn - (intOf i).toNat)
    case atStart => exact ⟨0, by omega, by omega, rfl, by omega, HH.out, HH2.out, 0, rfl⟩
    case round =>
      obtain ⟨k, hk1, hk2, rfl, hno, ha1, ha2, hwd⟩ := hrel
      have HN := hide hno
      have HA1 := hide ha1
      have HA2 := hide ha2
      have HWD := hide hwd
      clear hno ha1 ha2 hwd
      by_cases hlt : k < mn
      · have hkn : k < n := by omega
        have hkn2 : k < n2 := by omega
        obtain ⟨ad, x, rfl, hab, hx, hxw, hcell⟩ := HA1.out.at_ hkn
        obtain ⟨ad2, y, rfl, hab2, hy, hyw, hcell2⟩ := HA2.out.at_ hkn2
        have HX := hide hx
        have HY := hide hy
        have HC := hide hcell
        have HC2 := hide hcell2
        have hE0 := fun W => neq_id hxw hyw W
        have hki : (k : Int) < n := by omega
        have hki2 : (k : Int) < n2 := by omega
        have hkm : (k : Int) < mn := by omega
        clear hx hy hcell hcell2 hxw hyw
        cases he : eqL x.cells y.cells
        all_goals
          rw [he] at hE0
          have hE := hE0
          clear hE0
          have HE := hide he
          clear he
          go_wp2_with fail
          refine wp_region_quiet_lit (by kernel_rfl) (by kernel_rfl) ?_
          repeat (first
            | (refine wpQuiet_load rfl 32 (.tmp 16) rfl (ad.add (k * 9)) rfl x.cells _ HC.out Try.underlying32 rfl sizI ?_; go_simp)
            | (refine wpQuiet_load rfl 32 (.tmp 20) rfl (ad2.add (k * 9)) rfl y.cells _ HC2.out Try.underlying32 rfl sizI ?_; go_simp)
            | go_big_quiet_step (fail))
          refine wpQuiet_nil ?_
          intro nq
          go_wp2
        · go_ret
          have hf : sameR l m = false := by
            cases hq : sameR l m with
            | false => rfl
            | true =>
              have := ((sameR_iff l m).1 hq).2 k x y HX.out HY.out
              rw [HE.out] at this
              cases this
          exact ⟨ret_b hf.symm, drewN_ex HWD.out nq⟩
        · go_roundw
          case measure => simp [intOf]; omega
          case rel =>
            refine ⟨k + 1, by omega, by omega, by go_num, fun j p q hj hp hq => ?_, HA1.out.drewN nq, HA2.out.drewN nq, drewN_ex HWD.out nq⟩
            rcases Nat.lt_or_ge j k with h | h
            · exact HN.out j p q h hp hq
            · obtain rfl : j = k := by omega
              have h1 := HX.out
              have h2 := HY.out
              rw [hp] at h1
              rw [hq] at h2
              obtain rfl := Option.some.inj h1
              obtain rfl := Option.some.inj h2
              exact HE.out
      · have hkm : k = mn := by have := HMN.out; omega
        have hb : ((n : Int) == n2) = (l.length == m.length) := by rw [hl.out, hl2.out, Bool.eq_iff_iff]; simp; omega
        have hf : sameR l m = (l.length == m.length) := by
          rw [Bool.eq_iff_iff, beq_iff_eq, sameR_iff]
          refine ⟨fun h => h.1, fun h => ⟨h, fun j p q hp hq => HN.out j p q ?_ hp hq⟩⟩
          have := (List.getElem?_eq_some_iff.1 hp).1
          have := HMN.out
          have := hl.out
          have := hl2.out
          omega
        have HF := hide hf
        have HBB := hide hb
        have hM := HMN.out
        first
          | (have hstop : (n2 : Int) ≤ k := by omega)
          | (have hstop : (n : Int) ≤ k := by omega)
        clear hf hb hkm hM hlt
        go_wp2
        go_ret
        exact ⟨ret_b (by rw [HF.out, ← HBB.out]), HWD.out⟩
end Go.Proofs.Ytopanomcbkhbnaa
